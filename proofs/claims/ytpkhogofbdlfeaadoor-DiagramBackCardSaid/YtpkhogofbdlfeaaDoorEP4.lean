/- Tables, the builder of diagrams, by value. -/
import Derived.Test.YtpkhogofbdlfeaaDoorEP3
import Derived.Test.YtpkhogofbdlfeaaDoorEP2
set_option linter.unusedVariables false
set_option linter.unusedSimpArgs false
set_option linter.unusedSectionVars false
set_option maxRecDepth 100000
namespace Go.Ab
open Go.Proofs Go.Proofs.Tryd

theorem n_rem {tk : TK} {a b : Nat} (h : b ≠ 0) : binA tk .rem (.int .i64 a) (.int .i64 b) = some (.int .i64 (a % b : Nat)) := by
  have e : binA tk .rem (.int .i64 a) (.int .i64 b) = if (b : Int) = 0 then none else some (.int .i64 ((a : Int).tmod b)) := by cases tk <;> rfl
  rw [e, if_neg (by omega)]
  rfl
theorem n_quo {tk : TK} {a b : Nat} (h : b ≠ 0) (h' : a < 9223372036854775808) : binA tk .quo (.int .i64 a) (.int .i64 b) = some (.int .i64 (a / b : Nat)) := by
  have e : binA tk .quo (.int .i64 a) (.int .i64 b) = if (b : Int) = 0 then none else some (.int .i64 (IntKind.wrap .i64 ((a : Int).tdiv b))) := by cases tk <;> rfl
  rw [e, if_neg (by omega)]
  have e2 : (a : Int).tdiv b = ((a / b : Nat) : Int) := rfl
  have := Nat.div_le_self a b
  rw [e2]
  generalize a / b = q at *
  rw [wrap_i64 (by omega) (by omega)]
theorem n_mul {tk : TK} {a b : Nat} (h : a * b < 9223372036854775808) : binA tk .mul (.int .i64 a) (.int .i64 b) = some (.int .i64 (a * b : Nat)) := by
  rw [binA_mul, ← Int.natCast_mul]
  generalize a * b = q at *
  rw [wrap_i64 (by omega) (by omega)]
theorem rem5 (tk : TK) (a : Int) : binA tk .rem (.int .i64 a) (.int .i64 5) = some (.int .i64 (a.tmod 5)) := by cases tk <;> rfl
/-! ### Rows that grow -/
inductive GR (e : Nat) (m : Mem) : AV → List AV → List Nat → Prop
  | none : GR e m (.lst none true .full []) [] []
  | some (t : Nat) (es : List AV) (ht : m.get t = some (.tok es.length 1)) (hne : es ≠ []) : GR e m (.lst none false (.tok t e) es) es [t]
theorem gr_move {e : Nat} {m m' : Mem} {x : AV} {l : List AV} {T : List Nat} (h : GR e m x l T) (f : ∀ k ∈ T, m'.get k = m.get k) : GR e m' x l T := by
  cases h with
  | none => exact .none
  | some t l ht hne => exact .some t l ((f t (by simp)).trans ht) hne
theorem gr_lt {e : Nat} {m : Mem} {x : AV} {l : List AV} {T : List Nat} (h : GR e m x l T) : ∀ k ∈ T, k < m.length := by
  cases h with
  | none => simp
  | some t l ht _ =>
    intro k hk
    obtain rfl : k = t := by simpa using hk
    exact get_lt ht
theorem gr_out {e : Nat} {m : Mem} {x : AV} {l : List AV} {T : List Nat} (h : GR e m x l T) : ∃ z o, x = .lst none z o l ∧ (z = true → l = []) := by
  cases h with
  | none => exact ⟨true, .full, rfl, fun _ => rfl⟩
  | some t l ht _ => exact ⟨false, .tok t e, rfl, fun h => by cases h⟩
theorem gr_app {e b : Nat} {m : Mem} {x : AV} {l : List AV} {T : List Nat} (h : GR e m x l T) (hl : l.length < 1000000) (hb : b ≤ 64) (y : AV) : ∃ x' m' T', appA none false e none b m x (.lst none false .full [y]) = some (x', m') ∧ GR e m' x' (l ++ [y]) T' ∧ Fr m m' T ∧ Gr m T T' := by
  have h2 : (l.length + 1) * b ≤ roomA := by
    have := Nat.mul_le_mul (show l.length + 1 ≤ 1000000 by omega) hb
    unfold roomA; omega
  cases h with
  | none =>
    refine ⟨.lst none false (.tok m.length e) [y], m ++ [some (Ent.tok 1 1)], [m.length], ?_, .some _ [y] (by simp (disch := (first | assumption | omega | (simp only [List.length_append, List.length_set, List.length_cons, List.length_nil]; first | done | omega))) only [resv1, g_lt, g_eq, g_sne, g_seq]; first | done | rfl) (by simp), Fr.app m _ _, fun k hk => ?_⟩
    · have h2 : b ≤ roomA := by simpa using h2
      simp [appA, h2, newAt, Sh.size]
    · obtain rfl : k = m.length := by simpa using hk
      exact .inr (Nat.le_refl _)
  | some t es ht _ =>
    have htl := get_lt ht
    refine ⟨.lst none false (.tok t e) (l ++ [y]), m.set t (some (Ent.tok (l.length + 1) 1)), [t], ?_, ?_, (Fr.refl m [t]).set _ (.inl (by simp)), Gr.refl _ _⟩
    · simp [appA, ht, Sh.size, h2]
    · refine .some t (l ++ [y]) ?_ (by simp)
      rw [g_seq rfl htl, List.length_append]; rfl
/-! ### Places -/
theorem places_prod {most : Int} : ∀ (l : List Int) (acc : Int), (∀ a ∈ l, 1 ≤ a) → 1 ≤ acc → acc ≤ most → placesF most acc l ≠ 0 → placesF most acc l = acc * prodF l ∧ acc * prodF l ≤ most
  | [], acc, _, h1, h2, _ => by simp only [placesF, prodF]; omega
  | n :: l, acc, hl, h1, h2, h => by
    rw [placesF] at h ⊢
    have hn := hl n List.mem_cons_self
    by_cases hg : acc * n > most
    · rw [if_pos hg] at h; exact absurd rfl h
    · rw [if_neg hg] at h ⊢
      have hp : 1 ≤ acc * n := by have := Int.mul_le_mul h1 hn (by omega) (by omega); simpa using this
      have e := places_prod l (acc * n) (fun a ha => hl a (List.mem_cons_of_mem _ ha)) hp (by omega) h
      have e2 : acc * ((prodF (n :: l) : Nat) : Int) = acc * n * prodF l := by
        rw [prodF, Int.natCast_mul, Int.toNat_of_nonneg (by omega), Int.mul_assoc]
      rw [e2]
      exact e
theorem prod_pos {l : List Int} (h : ∀ a ∈ l, 1 ≤ a) : 1 ≤ prodF l := by
  induction l with
  | nil => exact Nat.le_refl _
  | cons n l ih =>
    rw [prodF]
    have h1 := h n List.mem_cons_self
    exact Nat.mul_pos (by omega) (ih fun a ha => h a (List.mem_cons_of_mem _ ha))
/-! ### table -/
theorem W28 {z zl : Bool} {o ol : Own} {ar l : List Int} (h1 : ar.length ≤ 16) (h2 : ∀ a ∈ ar, 1 ≤ a ∧ a ≤ 64) {N : Nat} (hN : placesF 300 1 ar = N) (hN2 : N ≤ 300) : ∀ (j i : Nat) (m : Mem) (x : AV) (t : List Int) (T : List Nat), i + j = N → GR 3 m x (t.map (AV.int .i64)) T → t.length = i → (∀ y ∈ t, 0 ≤ y ∧ y ≤ 4) →
    ∃ (m' : Mem) (x' : AV) (t' : List Int) (T' : List Nat), L28_3 (IA z o ar) (IA zl ol l) x (.int .i64 i) m (K28_3 (finK cfg.P f28.results.toList)) = some (x', m') ∧ GR 3 m' x' (t'.map (AV.int .i64)) T' ∧ t'.length = N ∧ ∀ y ∈ t', 0 ≤ y ∧ y ≤ 4 := by
  intro j
  induction j with
  | zero =>
    intro i m x t T hi h ht hy
    refine ⟨m, x, t, T, ?_, h, by omega, hy⟩
    rw [L28_3_eq, pc27 _ _ _ h1 h2 300 (by omega), Option.bind_some, hN, n_lss, Option.bind_some, ifA_dec, if_neg (by omega), K28_3_x0]
  | succ j ih =>
    intro i m x t T hi h ht hy
    have nx : ∀ (y : Int), ∃ (m' : Mem) (x' : AV) (t' : List Int) (T' : List Nat), ((appA none false 3 none 8 m x (.lst none false .full [.int .i64 ((IntKind.wrap .i64 (y.tmod 5 + 5)).tmod 5)])).bind fun r13 => L28_3 (IA z o ar) (IA zl ol l) r13.1 (.int .i64 (i + 1 : Nat)) r13.2 (K28_3 (finK cfg.P f28.results.toList))) = some (x', m') ∧ GR 3 m' x' (t'.map (AV.int .i64)) T' ∧ t'.length = N ∧ ∀ y ∈ t', 0 ≤ y ∧ y ≤ 4 := fun y => by
      obtain ⟨x1, m1, T1, ea, g1, _, _⟩ := gr_app (b := 8) h (by rw [List.length_map]; omega) (by omega) (.int .i64 ((IntKind.wrap .i64 (y.tmod 5 + 5)).tmod 5))
      rw [ea, Option.bind_some]
      have hb : 0 ≤ (IntKind.wrap .i64 (y.tmod 5 + 5)).tmod 5 ∧ (IntKind.wrap .i64 (y.tmod 5 + 5)).tmod 5 ≤ 4 := by
        have a1 := Int.tmod_lt_of_pos y (show (0:Int) < 5 by omega)
        have a2 : -5 < y.tmod 5 := by
          have hd := Int.tmod_add_mul_tdiv y 5
          rcases Int.le_total 0 y with h0 | h0
          · have := Int.tmod_nonneg (a := y) 5 h0; omega
          · have e : (-y).tmod 5 = -(y.tmod 5) := Int.neg_tmod ..
            have := Int.tmod_lt_of_pos (-y) (show (0:Int) < 5 by omega)
            omega
        rw [wrap_i64 (by omega) (by omega)]
        have b1 := Int.tmod_lt_of_pos (y.tmod 5 + 5) (show (0:Int) < 5 by omega)
        have b2 := Int.tmod_nonneg (a := y.tmod 5 + 5) 5 (by omega)
        omega
      have g2 : GR 3 m1 x1 ((t ++ [(IntKind.wrap .i64 (y.tmod 5 + 5)).tmod 5]).map (AV.int .i64)) T1 := by
        rw [List.map_append]; exact g1
      exact ih (i + 1) m1 x1 _ T1 (by omega) g2 (by simp [ht]) fun k hk => by
        rcases List.mem_append.1 hk with hk | hk
        · exact hy k hk
        · obtain rfl : k = _ := by simpa using hk
          exact hb
    rw [L28_3_eq, pc27 _ _ _ h1 h2 300 (by omega), Option.bind_some, hN, n_lss, Option.bind_some, ifA_dec, if_pos (by omega), len_IA, Option.bind_some, binA_gtr, Option.bind_some, ifA_dec]
    by_cases hl : (l.length : Int) > 0
    · rw [if_pos hl, Option.bind_some, n_rem (by omega), Option.bind_some, idx_IA (Nat.mod_lt _ (by omega)), Option.bind_some, loadA_one, Option.bind_some, rem5, Option.bind_some, binA_add, Option.bind_some, rem5, Option.bind_some, build_int, Option.bind_some]
      simp only [i_add1 (show i + 1 < 9223372036854775808 by omega)]
      exact nx _
    · rw [if_neg hl, rem5, Option.bind_some, binA_add, Option.bind_some, rem5, Option.bind_some, build_int, Option.bind_some]
      simp only [i_add1 (show i + 1 < 9223372036854775808 by omega)]
      exact nx _
theorem V28 (z zl : Bool) (o ol : Own) (ar l : List Int) (h1 : ar.length ≤ 16) (h2 : ∀ a ∈ ar, 1 ≤ a ∧ a ≤ 64) {N : Nat} (hN : placesF 300 1 ar = N) (hN2 : N ≤ 300) : ∃ (z' : Bool) (o' : Own) (t : List Int), AP cfg 28 [IA z o ar, IA zl ol l] = some (IA z' o' t) ∧ (z' = true → t = []) ∧ t.length = N ∧ ∀ y ∈ t, 0 ≤ y ∧ y ≤ 4 := by
  obtain ⟨m', x', t, T', e, g, ht, hy⟩ := W28 (z := z) (zl := zl) (o := o) (ol := ol) (l := l) h1 h2 hN hN2 N 0 [] (.lst none true .full []) [] [] (by omega) .none rfl (by simp)
  obtain ⟨z', o', rfl, hz⟩ := gr_out g
  refine ⟨z', o'.fr, t, ?_, fun h => List.map_eq_nil_iff.1 (hz h), ht, hy⟩
  refine AP_of (m := m') (v := IA z' o' t) (l := []) ?_ (fz_IA z' o' t m') rfl
  rw [T28]
  exact e
/-! ### build -/
theorem cut_IA (z : Bool) (o : Own) (t : List Int) (k : IntKind) {n i : Nat} (h : (i + 1) * n ≤ t.length) : sliceT none (IA z o t) (some (.int k (i * n : Nat))) (some (.int k ((i + 1) * n : Nat))) none = some (IA z .no (part t n i)) := by
  have h2 : i * n ≤ (i + 1) * n := Nat.mul_le_mul_right _ (by omega)
  have e : (i + 1) * n - i * n = n := by rw [Nat.add_mul, Nat.one_mul]; omega
  have e2 : part t n i = (t.take ((i + 1) * n)).drop (i * n) := by rw [List.drop_take, e]; rfl
  rw [e2]
  have e3 : sliceT none (IA z o t) (some (.int k (i * n : Nat))) (some (.int k ((i + 1) * n : Nat))) none = (boundA (List.map (AV.int .i64) t).length (some (.int k ((i + 1) * n : Nat))) (List.map (AV.int .i64) t).length).bind fun h => (boundA h (some (.int k (i * n : Nat))) 0).bind fun l => some (.lst none z .no (((List.map (AV.int .i64) t).take h).drop l)) := by
    have e4 : ∀ (es : List AV) (x y : Option AV), sliceT none (.lst none z o es) x y none = if (none : Sh) = none ∨ es = [] then (boundA es.length y es.length).bind fun h => (boundA h x 0).bind fun l => some (.lst none z .no ((es.take h).drop l)) else none := fun _ _ _ => rfl
    rw [e4, if_pos (.inl rfl)]
  rw [e3]
  have b1 : boundA (List.map (AV.int .i64) t).length (some (.int k ((i + 1) * n : Nat))) (List.map (AV.int .i64) t).length = some ((i + 1) * n) := by
    simp only [boundA, List.length_map]
    rw [if_pos ⟨by omega, by omega⟩, Int.toNat_natCast]
  have b2 : boundA ((i + 1) * n) (some (.int k (i * n : Nat))) 0 = some (i * n) := by
    simp only [boundA]
    rw [if_pos ⟨by omega, by omega⟩, Int.toNat_natCast]
  rw [b1, Option.bind_some, b2, Option.bind_some, ← List.map_take, ← List.map_drop]
def BuildAt (s : Nat) (zs za : Bool) (os oa : Own) (ar : List Int) (v n : Nat) : Prop :=
  ∀ (m : Mem) (F : List Nat) (l : List ND) (t : List Int) (z : Bool) (o : Own), St8 m s F (IA zs os ar) 4000 l → GoodL ar l → t.length = n → (∀ x ∈ t, 0 ≤ x ∧ x ≤ 4) → l.length + 2 * n ≤ 4000 → ∃ (m' : Mem) (F' : List Nat) (r : List ND) (id : Nat), AC cfg 30 [.ptr s 0, IA za oa ar, IA z o t, .int .i64 v] m = some (.tup [.int .i64 (id : Nat), .int .i64 0], m') ∧
    St8 m' s F' (IA zs os ar) 4000 (l ++ r) ∧ GoodL ar (l ++ r) ∧ TabV ar (l ++ r) id v t ∧ r.length + 1 ≤ 2 * t.length ∧ Fr m m' F ∧ Gr m F F'
theorem W30k {s : Nat} {zs za z : Bool} {os oa o : Own} {ar t : List Int} {v n a : Nat} (hv : v < ar.length) (ha : ar[v] = (a : Int)) (h1 : ∀ x ∈ ar, 1 ≤ x ∧ x ≤ 64) (hal : ar.length ≤ 16) (ht : t.length = a * n) (hn : n = prodF (ar.drop (v + 1))) (hn0 : 1 ≤ n) (htl : t.length ≤ 300) (hx : ∀ x ∈ t, 0 ≤ x ∧ x ≤ 4)
    {l0 : List ND} (hl0 : l0.length + 2 * t.length ≤ 4000) {m0 : Mem} {F0 : List Nat} (ih : BuildAt s zs za os oa ar (v + 1) n) :
    ∀ (j k : Nat) (m : Mem) (F : List Nat) (R : List ND) (ids : List Nat) (x : AV) (T : List Nat), k + j = a → St8 m s F (IA zs os ar) 4000 (l0 ++ R) → GoodL ar (l0 ++ R) → ids.length = k → (∀ i (h : i < ids.length), TabV ar (l0 ++ R) ids[i] (v + 1) (part t n i)) → R.length + k ≤ 2 * n * k →
      GR 3 m x ((ids.map Int.ofNat).map (AV.int .i64)) T → (∀ y ∈ T, y ∉ F ∧ m0.length ≤ y) → Fr m0 m F0 → Gr m0 F0 F →
      ∃ (m' : Mem) (F' : List Nat) (r : List ND) (id : Nat), L30_6 (.ptr s 0) (IA za oa ar) (IA z o t) (.int .i64 v) x (.int .i64 n) (.int .i64 k) m (K30_6 (finK cfg.P f30.results.toList)) = some (.tup [.int .i64 (id : Nat), .int .i64 0], m') ∧
        St8 m' s F' (IA zs os ar) 4000 (l0 ++ r) ∧ GoodL ar (l0 ++ r) ∧ TabV ar (l0 ++ r) id v t ∧ r.length + 1 ≤ 2 * t.length ∧ Fr m0 m' F0 ∧ Gr m0 F0 F' := by
  have hab := h1 _ (List.getElem_mem hv)
  have hget : ar.getD v 0 = (a : Int) := by rw [List.getD_eq_getElem?_getD, List.getElem?_eq_getElem hv, Option.getD_some, ha]
  have hix : indexAddrA none (IA za oa ar) (.int .i64 v) = some (.vptr [.int .i64 a]) := by rw [idx_IA hv, ha]
  intro j
  induction j with
  | zero =>
    intro k m F R ids x T hk h g hids htab hR hx' hT f gr
    obtain rfl : k = a := by omega
    obtain ⟨xz, xo, rfl, hxz⟩ := gr_out hx'
    have hb : R.length + k ≤ 2 * t.length := by rw [ht, Nat.mul_comm k n, ← Nat.mul_assoc]; exact hR
    have hk' : ∀ i ∈ ids, ∃ h : i < (l0 ++ R).length, (v : Int) < abv ar.length (l0 ++ R)[i] := fun i hi => by
      obtain ⟨q, hq, e⟩ := List.getElem_of_mem hi
      have := htab q hq
      rw [e] at this
      exact ⟨this.lt, by have := this.top this.lt; omega⟩
    have hll : (l0 ++ R).length < 4000 := by rw [List.length_append]; omega
    obtain ⟨r1, id, er, hr1, hr2, g2, tv⟩ := tab_node g h1 hal hv (ks := ids) (t := t) (by rw [hids, hget]) (by rw [ht, prod_step hv, hget, hn]; rfl) (fun q hq => by rw [← hn]; exact htab q hq) (by omega)
    have mk : makeR ar (l0 ++ R) v (ids.map Int.ofNat) = (((id : Int), 0), (l0 ++ R) ++ r1) := by
      unfold makeR
      rw [if_pos, er]
      refine ⟨by omega, by omega, by rw [Int.toNat_natCast, hget, List.length_map, hids], List.all_eq_true.2 fun q hq => ?_⟩
      obtain ⟨i, hi, rfl⟩ := List.mem_map.1 hq
      obtain ⟨hi1, hi2⟩ := hk' i hi
      unfold kidOk
      simp only [Bool.and_eq_true, decide_eq_true_eq]
      refine ⟨⟨Int.natCast_nonneg i, show (i : Int) < ((l0 ++ R).length : Nat) by omega⟩, ?_⟩
      have : (Int.ofNat i).toNat = i := rfl
      rw [this, List.getD_eq_getElem?_getD, List.getElem?_eq_getElem hi1, Option.getD_some]
      exact hi2
    obtain ⟨m2, F2, e17, k1, k2, k3⟩ := A17 (kz := xz) (ko := xo) (ks := ids.map Int.ofNat) h v (fun hh => List.map_eq_nil_iff.1 (hxz hh)) h1 hal (by rw [List.length_map]; omega) (by omega) (by omega)
    rw [mk] at e17 k1
    have e17 : AC cfg 17 [.ptr s 0, .int .i64 v, .lst none xz xo ((ids.map Int.ofNat).map (AV.int .i64))] m = _ := e17
    refine ⟨m2, F2, R ++ r1, id, ?_, by rw [← List.append_assoc]; exact k1, by rw [← List.append_assoc]; exact g2, by rw [← List.append_assoc]; exact tv, ?_, Fr.trans f k2 gr, Gr.trans f.len gr k3⟩
    · rw [L30_6_eq, hix, Option.bind_some, loadA_one, Option.bind_some, n_lss, Option.bind_some, ifA_dec, if_neg (by omega), K30_6_x0, e17, Option.bind_some]
      rfl
    · rw [List.length_append]
      by_cases hk1 : ids.length = 1
      · rw [hr2 hk1]; simp; omega
      · omega
  | succ j ihj =>
    intro k m F R ids x T hk h g hids htab hR hx' hT f gr
    have hka : k < a := by omega
    have hkn : (k + 1) * n ≤ t.length := by rw [ht]; exact Nat.mul_le_mul_right _ (by omega)
    have hkn0 : k * n ≤ (k + 1) * n := Nat.mul_le_mul_right _ (by omega)
    have hpl : (part t n k).length = n := part_len ht hka
    have hR2 : R.length + k + 2 * n ≤ 2 * t.length := by
      have : 2 * n * k + 2 * n ≤ 2 * t.length := by
        have e : 2 * n * k + 2 * n = 2 * ((k + 1) * n) := by rw [Nat.add_mul, Nat.one_mul, Nat.mul_add, Nat.mul_assoc, Nat.mul_comm n k]
        omega
      omega
    obtain ⟨m1, F1, r1, id, e30, k1, k2, k3, k4, k5, k6⟩ := ih m F (l0 ++ R) (part t n k) z .no h g hpl (fun y hy => hx y (part_mem y hy)) (by rw [List.length_append]; omega)
    rw [hpl] at k4
    have g1 : GR 3 m1 x ((ids.map Int.ofNat).map (AV.int .i64)) T := gr_move hx' fun y hy => k5.get y (gr_lt hx' y hy) (hT y hy).1
    obtain ⟨x2, m2, T2, ea, g2, f2, gg2⟩ := gr_app (b := 8) g1 (by simp; omega) (by omega) (.int .i64 (id : Nat))
    have hTF1 : ∀ y ∈ T, y ∉ F1 := fun y hy hF => by
      rcases k6 y hF with hh | hh
      · exact (hT y hy).1 hh
      · have := gr_lt hx' y hy; omega
    have st2 : St8 m2 s F1 (IA zs os ar) 4000 (l0 ++ (R ++ r1)) := by
      rw [← List.append_assoc]
      exact k1.fr f2 fun y hy hT' => hTF1 y hT' hy
    have e0 : L30_6 (.ptr s 0) (IA za oa ar) (IA z o t) (.int .i64 v) x (.int .i64 n) (.int .i64 k) m (K30_6 (finK cfg.P f30.results.toList)) = L30_6 (.ptr s 0) (IA za oa ar) (IA z o t) (.int .i64 v) x2 (.int .i64 n) (.int .i64 (k + 1 : Nat)) m2 (K30_6 (finK cfg.P f30.results.toList)) := by
      rw [L30_6_eq, hix, Option.bind_some, loadA_one, Option.bind_some, n_lss, Option.bind_some, ifA_dec, if_pos hka, n_mul (by omega), Option.bind_some, i_add1 (by omega), Option.bind_some, n_mul (by omega), Option.bind_some, cut_IA z o t .i64 hkn, Option.bind_some, i_add1 (by omega), Option.bind_some, e30, Option.bind_some, ex0, Option.bind_some, ex1, Option.bind_some, binA_neq, Option.bind_some, ifA_dec, if_neg (by simp), build_int, Option.bind_some, ea, Option.bind_some, Option.bind_some]
    rw [e0]
    refine ihj (k + 1) m2 F1 (R ++ r1) (ids ++ [id]) x2 T2 (by omega) st2 (by rw [← List.append_assoc]; exact k2) (by simp [hids]) (fun i hi => ?_) ?_ (by rw [List.map_append, List.map_append]; exact g2) (fun y hy => ?_) (Fr.trans (Fr.trans f k5 gr) f2 fun y hy => .inr (hT y hy).2) (Gr.trans f.len gr k6)
    · rw [← List.append_assoc]
      by_cases hi2 : i < ids.length
      · rw [List.getElem_append_left hi2]
        exact (htab i hi2).app g r1
      · have : i = ids.length := by simp at hi; omega
        subst this
        have e : (ids ++ [id])[ids.length]'(by simp) = id := by simp
        rw [e, hids]
        exact k3
    · rw [List.length_append, Nat.mul_add, Nat.mul_one]; omega
    · rcases gg2 y hy with hh | hh
      · exact ⟨hTF1 y hh, (hT y hh).2⟩
      · have l1 := f.len; have l2 := k5.len
        exact ⟨fun hF => by have := k1.lt y hF; omega, by omega⟩
theorem A30 {s : Nat} {zs za : Bool} {os oa : Own} {ar : List Int} (h1 : ∀ x ∈ ar, 1 ≤ x ∧ x ≤ 64) (hal : ar.length ≤ 16) (hp : prodF ar ≤ 300) : ∀ (d v : Nat), v + d = ar.length → prodF (ar.drop v) ≤ 300 → BuildAt s zs za os oa ar v (prodF (ar.drop v)) := by
  intro d
  induction d with
  | zero =>
    intro v hv hpv m F l t z o h g ht hx hl
    obtain rfl : v = ar.length := by omega
    rw [List.drop_length] at ht hl
    have ht : t.length = 1 := ht
    obtain ⟨y, rfl⟩ : ∃ y, t = [y] := List.length_eq_one_iff.1 ht
    have hy := hx y (by simp)
    have hl : l.length + 2 ≤ 4000 := hl
    obtain ⟨r, er, hr, g2, tv⟩ := leaf_facts g (x := y) ⟨hy.1, by omega⟩
    obtain ⟨m2, F2, e15, k1, k2, k3⟩ := A15 h y (by omega) (by omega)
    rw [leafR, if_pos ⟨hy.1, by omega⟩] at e15 k1
    dsimp only at e15 k1
    rw [er] at k1
    refine ⟨m2, F2, r, _, ?_, k1, g2, tv, by simp; omega, k2, k3⟩
    rw [T30, len_IA, Option.bind_some, n_eql, Option.bind_some, ifA_dec, if_pos rfl, idx_IA0 (by simp), Option.bind_some, loadA_one, Option.bind_some]
    have e15 : AC cfg 15 [.ptr s 0, .int .i64 [y][0]] m = _ := e15
    rw [e15, Option.bind_some]
    rfl
  | succ d ih =>
    intro v hv hpv m F l t z o h g ht hx hl
    have hvl : v < ar.length := by omega
    have hab := h1 _ (List.getElem_mem hvl)
    obtain ⟨a, ha⟩ := Int.eq_ofNat_of_zero_le (by omega : 0 ≤ ar[v])
    have hget : ar.getD v 0 = (a : Int) := by rw [List.getD_eq_getElem?_getD, List.getElem?_eq_getElem hvl, Option.getD_some, ha]
    have hps : prodF (ar.drop v) = a * prodF (ar.drop (v + 1)) := by rw [prod_step hvl, hget]; rfl
    have hn0 : 1 ≤ prodF (ar.drop (v + 1)) := prod_pos fun x hx => (h1 x (List.drop_subset _ _ hx)).1
    have hle : prodF (ar.drop (v + 1)) ≤ prodF (ar.drop v) := by
      rw [hps]; exact Nat.le_mul_of_pos_left _ (by omega)
    have ihv := ih (v + 1) (by omega) (by omega)
    have hta : t.length = a * prodF (ar.drop (v + 1)) := by rw [ht, hps]
    obtain ⟨m', F', r, id, e, k⟩ := W30k (z := z) (o := o) (m0 := m) (F0 := F) hvl ha h1 hal hta rfl hn0 (by omega) hx (l0 := l) (by omega) ihv a 0 m F [] [] (.lst none true .full []) [] (by omega) (by rw [List.append_nil]; exact h) (by rw [List.append_nil]; exact g) rfl (fun i hi => by simp at hi) (by simp) .none (by simp) (Fr.refl _ _) (Gr.refl _ _)
    refine ⟨m', F', r, id, ?_, k⟩
    have hix : indexAddrA none (IA za oa ar) (.int .i64 v) = some (.vptr [.int .i64 a]) := by rw [idx_IA hvl, ha]
    have hdiv : t.length / a = prodF (ar.drop (v + 1)) := by rw [hta, Nat.mul_div_cancel_left _ (by omega)]
    rw [T30, len_IA, Option.bind_some, n_eql, Option.bind_some, ifA_dec, if_neg (by omega), len_IA, Option.bind_some, hix, Option.bind_some, loadA_one, Option.bind_some, n_quo (by omega) (by omega), Option.bind_some, hdiv]
    exact e
/-- made: a new store and a table's node. -/
theorem A29 {za z : Bool} {oa o : Own} {ar t : List Int} (m : Mem) (hz : za = true → ar = []) (he : armsE ar = 0) (hp : prodF ar ≤ 300) (ht : t.length = prodF ar) (hx : ∀ x ∈ t, 0 ≤ x ∧ x ≤ 4) :
    ∃ m' s F zs os l id, AC cfg 29 [IA za oa ar, IA z o t] m = some (.tup [.ptr s 0, .int .i64 (id : Nat), .bool true], m') ∧ St8 m' s F (IA zs os ar) 4000 l ∧ GoodL ar l ∧ TabV ar l id 0 t ∧ l.length ≤ 600 ∧ Fr m m' [] ∧ ∀ x ∈ F, m.length ≤ x := by
  obtain ⟨h1, h2⟩ := armsE_ok he
  obtain ⟨m1, s, F, zs, os, e14, st, f1, hF⟩ := A14 m za oa ar hz he
  obtain ⟨m2, F2, r, id, e30, k1, k2, k3, k4, k5, k6⟩ := A30 (s := s) (zs := zs) (za := za) (os := os) (oa := oa) h2 h1 hp ar.length 0 (by omega) hp m1 F [] t z o st good_nil ht hx (by simp; have : prodF (ar.drop 0) = prodF ar := rfl; omega)
  rw [List.nil_append] at k1 k2 k3
  have e30 : AC cfg 30 [.ptr s 0, IA za oa ar, IA z o t, .int .i64 0] m1 = _ := e30
  refine ⟨m2, s, F2, zs, os, r, id, ?_, k1, k2, k3, by omega, (Fr.trans f1 k5 fun x hx => .inr (hF x hx)), fun x hx => ?_⟩
  · rw [T29, e14, Option.bind_some, ex0, Option.bind_some, ex1, Option.bind_some, binA_neq, Option.bind_some, ifA_dec, if_neg (by simp), e30, Option.bind_some]
    rfl
  · rcases k6 x hx with hh | hh
    · exact hF x hh
    · have := f1.len; omega
end Go.Ab

/- The nodes of a diagram in postorder; the reference's list. Plain Lean. -/
set_option linter.unusedVariables false
set_option linter.unusedSimpArgs false
namespace Go.Ab

def vis (l : List ND) : Nat → Nat → List Nat → List Nat
  | 0, _, out => out
  | n + 1, id, out => if id ∈ out then out else match l[id]? with
    | none => out
    | some x => (x.kids.foldl (fun o k => vis l n k.toNat o) out) ++ [id]
def Vi (l : List ND) (id : Nat) (out : List Nat) : List Nat := vis l (id + 1) id out
def Vis (l : List ND) (ks : List Int) (out : List Nat) : List Nat := ks.foldl (fun o k => Vi l k.toNat o) out
theorem foldl_same {α β : Type} {f g : β → α → β} : ∀ (l : List α) (b : β), (∀ x ∈ l, ∀ b, f b x = g b x) → l.foldl f b = l.foldl g b
  | [], _, _ => rfl
  | x :: l, b, h => by
    rw [List.foldl_cons, List.foldl_cons, h x List.mem_cons_self, foldl_same l _ fun y hy => h y (List.mem_cons_of_mem _ hy)]
section
variable {ar : List Int} {l : List ND}
theorem kid_lt (g : GoodL ar l) {i : Nat} (hi : i < l.length) : ∀ k ∈ l[i].kids, ∃ t : Nat, k = t ∧ t < i := fun k hk => by
  by_cases hv : 0 ≤ l[i].var
  · obtain ⟨t, e, ht, _⟩ := g.kid i hi hv k hk
    exact ⟨t, e, ht⟩
  · rcases g.ok _ (List.getElem_mem hi) with ⟨_, h2, _⟩ | ⟨h1, _⟩
    · rw [h2] at hk; cases hk
    · omega
theorem vis_fuel (g : GoodL ar l) : ∀ (n id m : Nat) (out : List Nat), id < l.length → id < n → id < m → vis l n id out = vis l m id out
  | 0, id, m, _, _, h, _ => by omega
  | n + 1, id, 0, _, _, _, h => by omega
  | n + 1, id, m + 1, out, hi, _, _ => by
    simp only [vis, List.getElem?_eq_getElem hi]
    rw [foldl_same l[id].kids out fun k hk b => ?_]
    obtain ⟨t, rfl, ht⟩ := kid_lt g hi k hk
    exact vis_fuel g n _ m b (by omega) (by simp; omega) (by simp; omega)
theorem Vi_eq (g : GoodL ar l) {id : Nat} (hi : id < l.length) (out : List Nat) : Vi l id out = if id ∈ out then out else Vis l l[id].kids out ++ [id] := by
  unfold Vi Vis
  rw [vis, List.getElem?_eq_getElem hi]
  dsimp only
  rw [foldl_same l[id].kids out fun k hk b => ?_]
  obtain ⟨t, rfl, ht⟩ := kid_lt g hi k hk
  exact vis_fuel g id _ _ b (by omega) (by simp; omega) (by simp [Vi])
theorem Vis_nil (out : List Nat) : Vis l [] out = out := rfl
theorem Vis_cons (k : Int) (ks : List Int) (out : List Nat) : Vis l (k :: ks) out = Vis l ks (Vi l k.toNat out) := rfl
/-- Each node behind its kids, none twice. -/
structure Cl (l : List ND) (out : List Nat) : Prop where
  nd : out.Nodup
  lt : ∀ j ∈ out, j < l.length
  cl : ∀ i (h : i < out.length) (hj : out[i] < l.length), ∀ k ∈ l[out[i]].kids, k.toNat ∈ out.take i
theorem cl_nil : Cl l [] := ⟨by simp, by simp, fun i h => by simp at h⟩
theorem Cl.kids {out : List Nat} (h : Cl l out) {j : Nat} (hj : j ∈ out) (hl : j < l.length) : ∀ k ∈ l[j].kids, k.toNat ∈ out := fun k hk => by
  obtain ⟨i, hi, e⟩ := List.getElem_of_mem hj
  subst e
  exact List.take_subset _ _ (h.cl i hi hl k hk)
theorem Cl.snoc {out : List Nat} (h : Cl l out) {id : Nat} (hi : id < l.length) (hn : id ∉ out) (hk : ∀ k ∈ l[id].kids, k.toNat ∈ out) : Cl l (out ++ [id]) := by
  refine ⟨?_, fun j hj => ?_, fun i h2 hj k hk2 => ?_⟩
  · rw [List.nodup_append]
    exact ⟨h.nd, by simp, fun a ha b hb e => by
      obtain rfl : b = id := by simpa using hb
      exact hn (e ▸ ha)⟩
  · rcases List.mem_append.1 hj with hj | hj
    · exact h.lt j hj
    · obtain rfl : j = id := by simpa using hj
      exact hi
  · by_cases hil : i < out.length
    · rw [List.take_append_of_le_length (by omega)]
      refine h.cl i hil (h.lt _ (List.getElem_mem hil)) k ?_
      have e : (out ++ [id])[i] = out[i] := List.getElem_append_left hil
      rw [List.getElem_of_eq rfl] at hk2
      have : ∀ (y : Nat) (hy : y < l.length), y = out[i] → k ∈ l[y].kids → k ∈ (l[out[i]]'(h.lt _ (List.getElem_mem hil))).kids := fun y hy e h => by subst e; exact h
      exact this _ hj e hk2
    · have hie : i = out.length := by simp at h2; omega
      subst hie
      have e : (out ++ [id])[out.length] = id := by simp
      have : ∀ (y : Nat) (hy : y < l.length), y = id → k ∈ l[y].kids → k ∈ l[id].kids := fun y hy e h => by subst e; exact h
      have := hk k (this _ hj e hk2)
      simpa using this
theorem Vi_facts (g : GoodL ar l) : ∀ id, id < l.length → ∀ out, Cl l out → Cl l (Vi l id out) ∧ id ∈ Vi l id out ∧ ∃ r, Vi l id out = out ++ r ∧ ∀ y ∈ r, y ≤ id := by
  intro id
  induction id using Nat.strongRecOn with
  | ind id ih =>
    intro hi out hc
    have key : ∀ (ks : List Int), (∀ k ∈ ks, ∃ t : Nat, k = t ∧ t < id) → ∀ out, Cl l out → Cl l (Vis l ks out) ∧ (∀ k ∈ ks, k.toNat ∈ Vis l ks out) ∧ ∃ r, Vis l ks out = out ++ r ∧ ∀ y ∈ r, y < id := by
      intro ks
      induction ks with
      | nil => intro _ out hc; exact ⟨hc, by simp, [], by simp [Vis], by simp⟩
      | cons k ks ihk =>
        intro hk out hc
        obtain ⟨t, rfl, ht⟩ := hk k List.mem_cons_self
        obtain ⟨a1, a2, r1, a3, a4⟩ := ih t ht (by omega) out hc
        obtain ⟨b1, b2, r2, b3, b4⟩ := ihk (fun k hk' => hk k (List.mem_cons_of_mem _ hk')) _ a1
        rw [Vis_cons, Int.toNat_natCast]
        refine ⟨b1, fun k hk' => ?_, r1 ++ r2, by rw [b3, a3, List.append_assoc], fun y hy => ?_⟩
        · rcases List.mem_cons.1 hk' with rfl | hk'
          · rw [b3]; exact List.mem_append_left _ (by simpa using a2)
          · exact b2 k hk'
        · rcases List.mem_append.1 hy with hy | hy
          · have := a4 y hy; omega
          · exact b4 y hy
    rw [Vi_eq g hi]
    by_cases hm : id ∈ out
    · rw [if_pos hm]; exact ⟨hc, hm, [], by simp, by simp⟩
    · rw [if_neg hm]
      obtain ⟨b1, b2, r, b3, b4⟩ := key l[id].kids (fun k hk => kid_lt g hi k hk) out hc
      refine ⟨b1.snoc hi (fun h => ?_) b2, by simp, r ++ [id], by rw [b3, List.append_assoc], fun y hy => ?_⟩
      · rw [b3] at h
        rcases List.mem_append.1 h with h | h
        · exact hm h
        · have := b4 _ h; omega
      · rcases List.mem_append.1 hy with hy | hy
        · have := b4 y hy; omega
        · have : y = id := by simpa using hy
          omega
theorem Vis_facts (g : GoodL ar l) {id : Nat} (hi : id < l.length) : ∀ (ks : List Int), (∀ k ∈ ks, ∃ t : Nat, k = t ∧ t < id) → ∀ out, Cl l out → Cl l (Vis l ks out) ∧ (∀ k ∈ ks, k.toNat ∈ Vis l ks out) ∧ ∃ r, Vis l ks out = out ++ r ∧ ∀ y ∈ r, y < id := by
  intro ks
  induction ks with
  | nil => intro _ out hc; exact ⟨hc, by simp, [], by simp [Vis], by simp⟩
  | cons k ks ihk =>
    intro hk out hc
    obtain ⟨t, rfl, ht⟩ := hk k List.mem_cons_self
    obtain ⟨a1, a2, r1, a3, a4⟩ := Vi_facts g t (by omega) out hc
    obtain ⟨b1, b2, r2, b3, b4⟩ := ihk (fun k hk' => hk k (List.mem_cons_of_mem _ hk')) _ a1
    rw [Vis_cons, Int.toNat_natCast]
    refine ⟨b1, fun k hk' => ?_, r1 ++ r2, by rw [b3, a3, List.append_assoc], fun y hy => ?_⟩
    · rcases List.mem_cons.1 hk' with rfl | hk'
      · rw [b3]; exact List.mem_append_left _ (by simpa using a2)
      · exact b2 k hk'
    · rcases List.mem_append.1 hy with hy | hy
      · have := a4 y hy; omega
      · exact b4 y hy
theorem Vis_same (g : GoodL ar l) : ∀ (ks : List Int) (out : List Nat), (∀ k ∈ ks, k.toNat ∈ out ∧ k.toNat < l.length) → Vis l ks out = out
  | [], _, _ => rfl
  | k :: ks, out, h => by
    obtain ⟨h1, h2⟩ := h k List.mem_cons_self
    rw [Vis_cons, Vi_eq g h2, if_pos h1]
    exact Vis_same g ks out fun k hk => h k (List.mem_cons_of_mem _ hk)
/-- What a node adds, where its kids are visited first. -/
theorem Vi_fold (g : GoodL ar l) {id : Nat} (hi : id < l.length) {out : List Nat} (hc : Cl l out) : Vi l id out = if id ∈ Vis l l[id].kids out then Vis l l[id].kids out else Vis l l[id].kids out ++ [id] := by
  rw [Vi_eq g hi]
  by_cases hm : id ∈ out
  · rw [Vis_same g _ _ fun k hk => ⟨hc.kids hm hi k hk, hc.lt _ (hc.kids hm hi k hk)⟩, if_pos hm]
    try rw [if_pos hm]
  · obtain ⟨b1, b2, r, b3, b4⟩ := Vis_facts g hi l[id].kids (fun k hk => kid_lt g hi k hk) out hc
    rw [if_neg hm, if_neg]
    intro h
    rw [b3] at h
    rcases List.mem_append.1 h with h | h
    · exact hm h
    · have := b4 _ h; omega
/-! ### The nodes, told by place in the list -/
def nd (l : List ND) (out : List Nat) (id : Nat) : ND := ⟨(l.getD id ⟨0, [], 0⟩).var, (l.getD id ⟨0, [], 0⟩).kids.map (fun k => ((out.idxOf k.toNat : Nat) : Int)), (l.getD id ⟨0, [], 0⟩).leaf⟩
def mapN (l : List ND) (out : List Nat) : List ND := out.map (nd l out)
theorem getD_at {id : Nat} (hi : id < l.length) : l.getD id ⟨0, [], 0⟩ = l[id] := by rw [List.getD_eq_getElem?_getD, List.getElem?_eq_getElem hi, Option.getD_some]
theorem nd_app {out : List Nat} {id : Nat} (hi : id < l.length) (hk : ∀ k ∈ l[id].kids, k.toNat ∈ out) (r : List Nat) : nd l (out ++ r) id = nd l out id := by
  unfold nd
  rw [getD_at hi]
  congr 1
  refine List.map_congr_left fun k hk' => ?_
  rw [List.idxOf_append, if_pos (hk k hk')]
theorem mapN_snoc {out : List Nat} (hc : Cl l out) {id : Nat} (hi : id < l.length) (hk : ∀ k ∈ l[id].kids, k.toNat ∈ out) : mapN l (out ++ [id]) = mapN l out ++ [nd l out id] := by
  unfold mapN
  rw [List.map_append, List.map_cons, List.map_nil, nd_app hi hk]
  congr 1
  exact List.map_congr_left fun j hj => nd_app (hc.lt j hj) (hc.kids hj (hc.lt j hj)) [id]
theorem idxOf_inj {out : List Nat} {a b : Nat} (ha : a ∈ out) (hb : b ∈ out) (e : out.idxOf a = out.idxOf b) : a = b := by
  have h1 := List.getElem_idxOf (List.idxOf_lt_length_of_mem ha)
  have h2 := List.getElem_idxOf (List.idxOf_lt_length_of_mem hb)
  rw [← h1, ← h2]
  simp only [e]
theorem nd_inj (g : GoodL ar l) {out : List Nat} {i j : Nat} (hi : i < l.length) (hj : j < l.length) (hki : ∀ k ∈ l[i].kids, k.toNat ∈ out) (hkj : ∀ k ∈ l[j].kids, k.toNat ∈ out) (e : nd l out i = nd l out j) : i = j := by
  unfold nd at e
  rw [getD_at hi, getD_at hj] at e
  injection e with e1 e2 e3
  have hk : l[i].kids = l[j].kids := by
    have hl : l[i].kids.length = l[j].kids.length := by have := congrArg List.length e2; simpa using this
    refine List.ext_getElem hl fun q h1 h2 => ?_
    have h3 := List.getElem_of_eq e2 (i := q) (by simpa using h1)
    rw [List.getElem_map, List.getElem_map] at h3
    have h4 := idxOf_inj (hki _ (List.getElem_mem h1)) (hkj _ (List.getElem_mem h2)) (by omega)
    obtain ⟨a, ea, _⟩ := kid_lt g hi _ (List.getElem_mem h1)
    obtain ⟨b, eb, _⟩ := kid_lt g hj _ (List.getElem_mem h2)
    omega
  have en : l[i] = l[j] := by
    generalize l[i] = x at *
    generalize l[j] = y at *
    obtain ⟨xv, xk, xl⟩ := x
    obtain ⟨yv, yk, yl⟩ := y
    simp only at e1 e3 hk
    rw [e1, e3, hk]
  exact nodup_inj g.nd hi hj en
theorem nd_mem (g : GoodL ar l) {out : List Nat} (hc : Cl l out) {id : Nat} (hi : id < l.length) (hk : ∀ k ∈ l[id].kids, k.toNat ∈ out) : nd l out id ∈ mapN l out ↔ id ∈ out := by
  unfold mapN
  rw [List.mem_map]
  constructor
  · rintro ⟨j, hj, e⟩
    have := nd_inj g (hc.lt j hj) hi (hc.kids hj (hc.lt j hj)) hk e
    exact this ▸ hj
  · intro h; exact ⟨id, h, rfl⟩
theorem nd_idx (g : GoodL ar l) {out : List Nat} (hc : Cl l out) {id : Nat} (hi : id < l.length) (hk : ∀ k ∈ l[id].kids, k.toNat ∈ out) : (mapN l out).idxOf (nd l out id) = out.idxOf id := by
  have key : ∀ (p : List Nat), (∀ j ∈ p, j ∈ out) → (p.map (nd l out)).idxOf (nd l out id) = p.idxOf id := by
    intro p
    induction p with
    | nil => intro _; rfl
    | cons j p ih =>
      intro h
      have hj := h j List.mem_cons_self
      rw [List.map_cons, List.idxOf_cons, List.idxOf_cons, ih fun q hq => h q (List.mem_cons_of_mem _ hq)]
      have : (nd l out j == nd l out id) = (j == id) := by
        by_cases e : j = id
        · subst e; simp
        · have : nd l out j ≠ nd l out id := fun h => e (nd_inj g (hc.lt j hj) hi (hc.kids hj (hc.lt j hj)) hk h)
          rw [beq_eq_false_iff_ne.2 e, beq_eq_false_iff_ne.2 this]
      rw [this]
  exact key out fun _ h => h
/-- What the reference's place does with its node. -/
theorem put_ref (g : GoodL ar l) {out : List Nat} (hc : Cl l out) {id : Nat} (hi : id < l.length) (hk : ∀ k ∈ l[id].kids, k.toNat ∈ out) :
    ins (mapN l out) (nd l out id) = mapN l (if id ∈ out then out else out ++ [id]) ∧ (mapN l out).idxOf (nd l out id) = (if id ∈ out then out else out ++ [id]).idxOf id := by
  have hm := nd_mem g hc hi hk
  rw [nd_idx g hc hi hk]
  unfold ins
  by_cases h : id ∈ out
  · rw [if_pos (hm.2 h), if_pos h]; exact ⟨rfl, rfl⟩
  · rw [if_neg (fun hh => h (hm.1 hh)), if_neg h, mapN_snoc hc hi hk, List.idxOf_append, if_neg h]
    refine ⟨rfl, ?_⟩
    rw [List.idxOf_eq_length h]; simp
/-! ### What tables tell of nodes -/
theorem tab_mem {id v : Nat} {t : List Int} (hv : v ≤ ar.length) (h : TabV ar l id v t) {a : Nat → Nat} (ha : Asg ar a) : S l a id ∈ t := by
  rw [h.val a ha]
  have := idx_lt ha (ar.length - v) v (by omega)
  rw [List.getD_eq_getElem?_getD, List.getElem?_eq_getElem (by rw [h.len]; exact this), Option.getD_some]
  exact List.getElem_mem _
theorem const_leaf (g : GoodL ar l) (h1 : ∀ x ∈ ar, 1 ≤ x) {id v : Nat} {t : List Int} (hv : v ≤ ar.length) (h : TabV ar l id v t) {c : Int} (hc : ∀ y ∈ t, y = c) : l.getD id ⟨0, [], 0⟩ = leafN c := by
  have hi := h.lt
  rw [getD_at hi]
  have hS : ∀ a, Asg ar a → S l a id = c := fun a ha => hc _ (tab_mem hv h ha)
  have hn : l[id].var < 0 := by
    refine Decidable.byContradiction fun hn => ?_
    have hv0 : 0 ≤ l[id].var := by omega
    have hvt : ((l[id].var.toNat : Nat) : Int) = l[id].var := by omega
    have a0 := asg0 h1
    have hlt := (g.var id hi hv0).1
    obtain ⟨t0, e0, ht0, _⟩ := kid_at g hi hv0 (k := 0) (by
      have := h1 (ar[l[id].var.toNat]) (List.getElem_mem (by omega))
      rw [List.getD_eq_getElem?_getD, List.getElem?_eq_getElem (by omega), Option.getD_some]; omega)
    have all : ∀ k : Nat, (k : Int) < ar.getD l[id].var.toNat 0 → ∀ a, Asg ar a → S l a (l[id].kids.getD k 0).toNat = c := fun k hk a ha => by
      rw [← S_upd g ha hi (v := l[id].var.toNat) (k := k) hvt.symm hk]
      exact hS _ (ha.upd hk)
    refine not_one g h1 hi (j := t0) hv0 fun k hk => ?_
    obtain ⟨tk, ek, htk, _⟩ := kid_at g hi hv0 hk
    rw [ek]
    congr 1
    refine canon g h1 _ tk t0 (by omega) (by omega) (Nat.lt_succ_self _) fun a ha => ?_
    have x1 := all k hk a ha
    have x2 := all 0 (by
      have := h1 (ar[l[id].var.toNat]) (List.getElem_mem (by omega))
      rw [List.getD_eq_getElem?_getD, List.getElem?_eq_getElem (by omega), Option.getD_some]; omega) a ha
    rw [ek, Int.toNat_natCast] at x1
    rw [e0, Int.toNat_natCast] at x2
    rw [x1, x2]
  have hl : l[id].leaf = c := by rw [← hS _ (asg0 h1), S_leaf hi hn]
  rcases g.ok _ (List.getElem_mem hi) with ⟨b1, b2, _⟩ | ⟨b1, _⟩
  · generalize l[id] = x at *
    obtain ⟨xv, xk, xl⟩ := x
    simp only at b1 b2 hl
    rw [b1, b2, hl]; rfl
  · omega
theorem tab_upd {id v : Nat} {t : List Int} (hv : v < ar.length) (h : TabV ar l id v t) {a : Nat → Nat} (ha : Asg ar a) {k : Nat} (hk : (k : Int) < ar.getD v 0) : S l (upd a v k) id = (part t (prodF (ar.drop (v + 1))) k).getD (idxF (ar.drop (v + 1)) (v + 1) a) 0 := by
  have hn := idx_lt ha (ar.length - (v + 1)) (v + 1) (by omega)
  rw [h.val _ (ha.upd hk), part_get hn, idx_step hv, idx_upd (ar.length - (v + 1)) (v + 1) (by omega) (by omega)]
  have : upd a v k v = k := by unfold upd; rw [if_pos rfl]
  rw [this]
theorem part_len' (h1 : ∀ x ∈ ar, 1 ≤ x) {v : Nat} {t : List Int} (hv : v < ar.length) (ht : t.length = prodF (ar.drop v)) {k : Nat} (hk : (k : Int) < ar.getD v 0) : (part t (prodF (ar.drop (v + 1))) k).length = prodF (ar.drop (v + 1)) := by
  rw [prod_step hv] at ht
  exact part_len ht (by omega)
theorem tab_kid (g : GoodL ar l) (h1 : ∀ x ∈ ar, 1 ≤ x) {id v : Nat} {t : List Int} (hv : v < ar.length) (h : TabV ar l id v t) (hi : id < l.length) (hvar : l[id].var = v) {k : Nat} (hk : (k : Int) < ar.getD v 0) : TabV ar l (l[id].kids.getD k 0).toNat (v + 1) (part t (prodF (ar.drop (v + 1))) k) := by
  have hvt : l[id].var.toNat = v := by omega
  obtain ⟨q, e, hq, h2⟩ := kid_at g hi (by omega) (k := k) (by rw [hvt]; exact hk)
  refine ⟨part_len' h1 hv h.len hk, by rw [e]; simp; omega, fun hh => ?_, fun a ha => ?_⟩
  · have := h2 (by omega)
    have e2 : (l[id].kids.getD k 0).toNat = q := by rw [e]; simp
    have : ∀ (y : Nat) (hy : y < l.length), y = q → (((v + 1 : Nat)) : Int) ≤ abv ar.length l[y] := fun y hy ey => by subst ey; omega
    exact this _ hh e2
  · rw [← S_upd g ha hi hvar hk]
    exact tab_upd hv h ha hk
/-- Where all parts are the same, the variable does not matter. -/
theorem free_tab (g : GoodL ar l) (h1 : ∀ x ∈ ar, 1 ≤ x) {id v : Nat} {t : List Int} (hv : v < ar.length) (h : TabV ar l id v t) (hf : ∀ k : Nat, (k : Int) < ar.getD v 0 → part t (prodF (ar.drop (v + 1))) k = part t (prodF (ar.drop (v + 1))) 0) : TabV ar l id (v + 1) (part t (prodF (ar.drop (v + 1))) 0) := by
  have hi := h.lt
  have hav : 1 ≤ ar.getD v 0 := by
    rw [List.getD_eq_getElem?_getD, List.getElem?_eq_getElem hv, Option.getD_some]; exact h1 _ (List.getElem_mem hv)
  have hne : l[id].var ≠ v := fun hvar => by
    have hvt : l[id].var.toNat = v := by omega
    refine not_one g h1 hi (j := (l[id].kids.getD 0 0).toNat) (by omega) fun k hk => ?_
    rw [hvt] at hk
    obtain ⟨q, e, hq, _⟩ := kid_at g hi (by omega) (k := k) (by rw [hvt]; exact hk)
    have t1 := tab_kid g h1 hv h hi hvar hk
    have t0 := tab_kid g h1 hv h hi hvar (k := 0) (by omega)
    rw [hf k hk] at t1
    have := tab_same g h1 t1 t0
    rw [← this, e]; simp
  have htop := h.top hi
  have hlt : (v : Int) < abv ar.length l[id] := by
    unfold abv at htop ⊢
    split
    · rename_i hh; rw [if_pos hh] at htop; omega
    · omega
  refine ⟨part_len' h1 hv h.len (by omega), hi, fun _ => by omega, fun a ha => ?_⟩
  have hk := ha v hv
  rw [← hf (a v) hk, ← tab_upd hv h ha hk, S_indep g ha hk id hi hlt]
/-- Where not all parts are the same, the node is of this variable. -/
theorem node_tab (g : GoodL ar l) (h1 : ∀ x ∈ ar, 1 ≤ x) {id v : Nat} {t : List Int} (hv : v < ar.length) (h : TabV ar l id v t) (hi : id < l.length) (hf : ¬ ∀ k : Nat, (k : Int) < ar.getD v 0 → part t (prodF (ar.drop (v + 1))) k = part t (prodF (ar.drop (v + 1))) 0) : l[id].var = v := by
  refine Decidable.byContradiction fun hne => hf fun k hk => ?_
  have htop := h.top hi
  have hav : 1 ≤ ar.getD v 0 := by
    rw [List.getD_eq_getElem?_getD, List.getElem?_eq_getElem hv, Option.getD_some]; exact h1 _ (List.getElem_mem hv)
  have hlt : (v : Int) < abv ar.length l[id] := by
    unfold abv at htop ⊢
    split
    · rename_i hh; rw [if_pos hh] at htop; omega
    · omega
  have e1 := part_len' h1 hv h.len hk
  have e0 := part_len' h1 hv h.len (k := 0) (by omega)
  refine list_eq_getD (e1.trans e0.symm) fun q hq => ?_
  obtain ⟨a, ha, e⟩ := idx_surj h1 (ar.length - (v + 1)) (v + 1) q (by omega) (by rw [← e1]; exact hq)
  rw [← e, ← tab_upd hv h ha hk, ← tab_upd hv h ha (k := 0) (by omega), S_indep g ha hk id hi hlt, S_indep g ha (by omega) id hi hlt]
end
end Go.Ab

/- What the interpreter does, function by function. -/
set_option maxRecDepth 100000
set_option linter.unusedVariables false
namespace Go.Ab
open Go.Proofs.Tryd
/-! ### sortilege/sortilegeref23.Right -/
/-! ### sortilege/sortilegeref23.Table -/
/-! ### sortilege/sortilegeref23.Eval -/
/-! ### sortilege/sortilegeref23.Restrict -/
/-! ### sortilege/sortilegelaw23.listed -/
def O39_3 (x3 : AV) (m : Mem) : St := ⟨[.any, .any, .any, x3, .any, .any, .any, .any, .any, .any, .any, .any, .any, .any, .any, .any, .any, .any], m⟩
noncomputable def L39_3 (x3 x6 x7 x8 : AV) (m : Mem) (K : Ex → St → Option (AV × Mem)) : Option (AV × Mem) := loopW (execW cfg 39 (AP cfg) (AC cfg) (c1 (c1 (c2 (c1 (c2 (c2 (bodyOf f39)))))))) (cfg.mask 39 (some 3)) ⟨[.any, .any, .any, x3, .any, .any, x6, x7, x8, .any, .any, .any, .any, .any, .any, .any, .any, .any], m⟩ K
noncomputable abbrev K39_3_0 (K : Ex → St → Option (AV × Mem)) : Ex → St → Option (AV × Mem) := seqK (fun st => execW cfg 39 (AP cfg) (AC cfg) (c2 (c2 (c2 (bodyOf f39)))) st K) K
noncomputable abbrev K39_3_1 (K : Ex → St → Option (AV × Mem)) : Ex → St → Option (AV × Mem) := blockK 0 (K39_3_0 K)
noncomputable abbrev K39_3 (K : Ex → St → Option (AV × Mem)) : Ex → St → Option (AV × Mem) := (K39_3_1 K)
theorem T39 (a0 : AV) (m : Mem) : AC cfg 39 [a0] m =
  (lenA false a0).bind fun v1 =>
  L39_3 (.lst none true .full []) a0 v1 (.int .i64 0) m (K39_3 (finK cfg.P f39.results.toList)) :=
(AC_eq cfg 39 [a0] m (fn := f39) (c := bodyOf f39) at39 rfl).trans (by kernel_rfl)
theorem L39_3_eq (x3 x6 x7 x8 : AV) (m : Mem) (K : Ex → St → Option (AV × Mem)) : L39_3 x3 x6 x7 x8 m K =
  (binA .other .lss x8 x7).bind fun v1 =>
  ifA v1 (
  (indexAddrA (some 3) x6 x8).bind fun v2 =>
  (loadA (some 3) m v2).bind fun v3 =>
  (storeA (some 3) (newAt none m (.obj true [(.int .i64 0), (.lst none true .full []), (.int .i64 0)])).2 (.ptr (newAt none m .resv).1 0) v3).bind fun m4 =>
  (loadA (some 3) m4 (.ptr (newAt none m .resv).1 0)).bind fun v5 =>
  (buildSliceA (some 3) [v5]).bind fun v6 =>
  (appA none false 39 (some 3) 40 m4 x3 v6).bind fun r7 =>
  (binA .other .add x8 (.int .i64 1)).bind fun v8 =>
  L39_3 r7.1 x6 x7 v8 r7.2 K) (
  K (.exit 0) (O39_3 x3 m)) :=
(loopW_eq (execW_lin _) _ _ _).trans (by kernel_rfl)
theorem K39_3_x0 (x3 : AV) (m : Mem) : K39_3 (finK cfg.P f39.results.toList) (.exit 0) (O39_3 x3 m) =
  some (x3, m) := by kernel_rfl
/-! ### sortilege/sortilegelaw23.nodes -/
def O45_3 (x3 : AV) (m : Mem) : St := ⟨[.any, .any, .any, x3, .any, .any, .any, .any, .any, .any, .any, .any, .any, .any, .any, .any, .any, .any], m⟩
noncomputable def L45_3 (x3 x6 x7 x8 : AV) (m : Mem) (K : Ex → St → Option (AV × Mem)) : Option (AV × Mem) := loopW (execW cfg 45 (AP cfg) (AC cfg) (c1 (c1 (c2 (c1 (c2 (c2 (bodyOf f45)))))))) (cfg.mask 45 (some 3)) ⟨[.any, .any, .any, x3, .any, .any, x6, x7, x8, .any, .any, .any, .any, .any, .any, .any, .any, .any], m⟩ K
noncomputable abbrev K45_3_0 (K : Ex → St → Option (AV × Mem)) : Ex → St → Option (AV × Mem) := seqK (fun st => execW cfg 45 (AP cfg) (AC cfg) (c2 (c2 (c2 (bodyOf f45)))) st K) K
noncomputable abbrev K45_3_1 (K : Ex → St → Option (AV × Mem)) : Ex → St → Option (AV × Mem) := blockK 0 (K45_3_0 K)
noncomputable abbrev K45_3 (K : Ex → St → Option (AV × Mem)) : Ex → St → Option (AV × Mem) := (K45_3_1 K)
theorem T45 (a0 : AV) (m : Mem) : AC cfg 45 [a0] m =
  (lenA false a0).bind fun v1 =>
  L45_3 (.lst none true .full []) a0 v1 (.int .i64 0) m (K45_3 (finK cfg.P f45.results.toList)) :=
(AC_eq cfg 45 [a0] m (fn := f45) (c := bodyOf f45) at45 rfl).trans (by kernel_rfl)
theorem L45_3_eq (x3 x6 x7 x8 : AV) (m : Mem) (K : Ex → St → Option (AV × Mem)) : L45_3 x3 x6 x7 x8 m K =
  (binA .other .lss x8 x7).bind fun v1 =>
  ifA v1 (
  (indexAddrA (some 3) x6 x8).bind fun v2 =>
  (loadA (some 3) m v2).bind fun v3 =>
  (storeA (some 3) (newAt none m (.obj true [(.int .i64 0), (.lst none true .full []), (.int .i64 0)])).2 (.ptr (newAt none m .resv).1 0) v3).bind fun m4 =>
  (loadA (some 3) m4 (.ptr (newAt none m .resv).1 0)).bind fun v5 =>
  (buildSliceA (some 3) [v5]).bind fun v6 =>
  (appA none false 44 (some 3) 40 m4 x3 v6).bind fun r7 =>
  (binA .other .add x8 (.int .i64 1)).bind fun v8 =>
  L45_3 r7.1 x6 x7 v8 r7.2 K) (
  K (.exit 0) (O45_3 x3 m)) :=
(loopW_eq (execW_lin _) _ _ _).trans (by kernel_rfl)
theorem K45_3_x0 (x3 : AV) (m : Mem) : K45_3 (finK cfg.P f45.results.toList) (.exit 0) (O45_3 x3 m) =
  some (x3, m) := by kernel_rfl
end Go.Ab

/- Small functions of the laws and the reference; Eval; All: by value. -/
set_option linter.unusedVariables false
set_option linter.unusedSimpArgs false
set_option linter.unusedSectionVars false
set_option maxRecDepth 100000
namespace Go.Ab
open Go.Proofs Go.Proofs.Tryd

theorem W79 {z1 z2 : Bool} {o1 o2 : Own} {k1 k2 : List Int} (hl : k1.length = k2.length) (hl2 : k1.length ≤ 100000) (m : Mem) : ∀ j i : Nat, i + j = k1.length →
    L79_4 (IA z1 o1 k1) (IA z2 o2 k2) (.int .i64 k1.length) (.int .i64 i) m (K79_4 (finK cfg.P f79.results.toList)) = some (.bool (decide (k1.drop i = k2.drop i)), m)
  | 0, i, h => by
    rw [L79_4_eq, binA_lss, Option.bind_some, ifA_dec, if_neg (by omega), List.drop_eq_nil_of_le (by omega), List.drop_eq_nil_of_le (by omega), K79_4_x0]; rfl
  | j + 1, i, h => by
    have hi : i < k1.length := by omega
    have hi2 : i < k2.length := by omega
    have ih := W79 (z1 := z1) (z2 := z2) (o1 := o1) (o2 := o2) hl hl2 m j (i + 1) (by omega)
    rw [L79_4_eq, binA_lss, Option.bind_some, ifA_dec, if_pos (by omega), idx_IA hi, Option.bind_some, loadA_one, Option.bind_some, idx_IA hi2, Option.bind_some, loadA_one, Option.bind_some, binA_neq, Option.bind_some, ifA_dec, List.drop_eq_getElem_cons hi, List.drop_eq_getElem_cons hi2]
    by_cases he : k1[i] = k2[i]
    · rw [if_neg (by simpa using he), i_add1 (by omega), Option.bind_some, ih]
      congr 3
      exact decide_eq_decide.2 (by rw [he]; exact ⟨fun e => by rw [e], fun e => (List.cons.inj e).2⟩)
    · rw [if_pos he, K79_4_ret]
      congr 3
      exact (decide_eq_false (fun e => he (List.cons.inj e).1)).symm
theorem V79 (z1 z2 : Bool) (o1 o2 : Own) (k1 k2 : List Int) (hl2 : k1.length ≤ 100000) : AP cfg 79 [IA z1 o1 k1, IA z2 o2 k2] = some (.bool (decide (k1 = k2))) := by
  refine AP_of (m := []) (v := .bool (decide (k1 = k2))) (l := []) ?_ rfl rfl
  rw [T79, len_IA, Option.bind_some, len_IA, Option.bind_some, binA_neq, Option.bind_some, ifA_dec]
  by_cases hl : k1.length = k2.length
  · rw [if_neg (by omega), Option.bind_some, show (AV.int .i64 0) = .int .i64 ((0 : Nat) : Int) from rfl, W79 hl hl2 [] k1.length 0 (by omega), List.drop_zero, List.drop_zero]
  · rw [if_pos (by omega)]
    congr 3
    exact (decide_eq_false (fun e => hl (by rw [e]))).symm
theorem pc79 (z1 z2 : Bool) (o1 o2 : Own) (k1 k2 : List Int) (hl2 : k1.length ≤ 100000) (m : Mem) : pcall (AP cfg) none m 79 [IA z1 o1 k1, IA z2 o2 k2] = some (.bool (decide (k1 = k2)), m) := by
  rw [pcall2 (fz_IA z1 o1 k1) (fz_IA z2 o2 k2), V79 z1 z2 _ _ k1 k2 hl2]; rfl
theorem W78 (z : Bool) (o : Own) (k0 : Int) (ks : List Int) (hl : (k0 :: ks).length ≤ 1000) (m : Mem) : ∀ j i : Nat, i + j = (k0 :: ks).length →
    L78_2 (IA z o (k0 :: ks)) (IA z o (k0 :: ks)) (.int .i64 (k0 :: ks).length) (.int .i64 i) m (K78_2 (finK cfg.P f78.results.toList)) = some (.bool (((k0 :: ks).drop i).all fun k => k == k0), m)
  | 0, i, h => by
    rw [L78_2_eq, binA_lss, Option.bind_some, ifA_dec, if_neg (by omega), List.drop_eq_nil_of_le (by omega), K78_2_x0]; rfl
  | j + 1, i, h => by
    have hi : i < (k0 :: ks).length := by omega
    rw [L78_2_eq, binA_lss, Option.bind_some, ifA_dec, if_pos (by omega), idx_IA hi, Option.bind_some, loadA_one, Option.bind_some, idx_IA0 (by simp), Option.bind_some, loadA_one, Option.bind_some, binA_neq, Option.bind_some, ifA_dec, List.drop_eq_getElem_cons hi, List.all_cons]
    by_cases he : (k0 :: ks)[i] = k0
    · rw [if_neg (by simpa using he), i_add1 (by omega), Option.bind_some, W78 z o k0 ks hl m j (i + 1) (by omega), show ((k0 :: ks)[i] == k0) = true by simpa using he, Bool.true_and]
    · rw [if_pos (by simpa using he), K78_2_ret, show ((k0 :: ks)[i] == k0) = false by simpa using he, Bool.false_and]
theorem V78 (z : Bool) (o : Own) (ks : List Int) (hne : ks ≠ []) (hl : ks.length ≤ 1000) : AP cfg 78 [IA z o ks] = some (.bool (ks.all fun k => k == ks.headD 0)) := by
  obtain ⟨k0, ks, rfl⟩ := List.exists_cons_of_ne_nil hne
  refine AP_of (m := []) (v := .bool ((k0 :: ks).all fun k => k == k0)) (l := []) ?_ rfl rfl
  rw [T78, len_IA, Option.bind_some, show (AV.int .i64 0) = .int .i64 ((0 : Nat) : Int) from rfl, W78 z o k0 ks hl [] (k0 :: ks).length 0 (by omega), List.drop_zero]
theorem pc78 (z : Bool) (o : Own) (ks : List Int) (hne : ks ≠ []) (hl : ks.length ≤ 1000) (m : Mem) : pcall (AP cfg) none m 78 [IA z o ks] = some (.bool (ks.all fun k => k == ks.headD 0), m) := by
  rw [pcall1 (fz_IA z o ks), V78 z _ ks hne hl]; rfl
/-! ### Assignment, All -/
/-- The assignment that a row tells. -/
def asgOf (cs : List Int) : Nat → Nat := fun v => (cs.getD v 0).toNat
theorem mapF_int (m : Mem) (k : Nat) : ∀ ds : List Int, mapF (frz m (k + 1)) (ds.map (AV.int .i64)) = some (ds.map (AV.int .i64), [])
  | [] => rfl
  | d :: ds => by
    have : frz m (k + 1) (AV.int .i64 d) = some (AV.int .i64 d, []) := rfl
    simp [mapF, this, mapF_int m k ds]
theorem plL_int : ∀ ds : List Int, plL (ds.map (AV.int .i64)) = true
  | [] => rfl
  | d :: ds => by
    have : pl (AV.int .i64 d) = true := rfl
    simp [plL, this, plL_int ds]
theorem frz_int {m : Mem} {nm : Nat} {ds : List Int} (h : m.get nm = some (.obj false (ds.map (AV.int .i64)))) : frz m fuelF (.arr nm 0 ds.length none) = some (IA false .no ds, [nm]) := by
  have h1 : ((ds.map (AV.int .i64)).all atomOk) = true := by simp [List.all_map, atomOk]
  have hg : m.obj? nm = some (false, ds.map (AV.int .i64)) := by rw [obj_objE, h]; rfl
  show (m.obj? nm).bind _ = _
  rw [hg]
  simp only [Option.bind_some, Sh.size, List.length_map, Nat.zero_add, Nat.mul_one, Nat.le_refl, decide_true, Bool.not_false, Bool.and_self, if_true, List.drop_zero, List.take_of_length_le (by simp : (ds.map (AV.int .i64)).length ≤ ds.length)]
  rw [mapF_int]
  simp only [Option.bind_some, h1, plL_int, Bool.and_self, if_true, grp]
  rw [List.take_of_length_le (by simp)]
theorem st_int {m : Mem} {nm i : Nat} {ds : List Int} {y : Int} (h : m.get nm = some (.obj false (ds.map (AV.int .i64)))) (hi : i < ds.length) : storeA none m (.ptr nm i) (.int .i64 y) = some (m.set nm (some (.obj false ((ds.set i y).map (AV.int .i64))))) := by
  have hg : m.obj? nm = some (false, ds.map (AV.int .i64)) := by rw [obj_objE, h]; rfl
  have h1 : i + 1 ≤ ds.length := hi
  simp only [storeA, hg, Option.bind_some, Sh.size, List.length_map, h1, if_true, shOk, atomOk, AV.cells]
  congr 4
  simp only [putAt, List.length_cons, List.length_nil]
  rw [List.map_set, List.set_eq_take_append_cons_drop]
  simp [hi, List.map_take, List.map_drop]
/-- A row is the assignment of a number. -/
structure Asn (ar : List Int) (i : Nat) (cs : List Int) : Prop where
  len : cs.length = ar.length
  bd : ∀ v, v < ar.length → 0 ≤ cs.getD v 0 ∧ cs.getD v 0 < ar.getD v 0
  idx : idxF ar 0 (asgOf cs) = i
/-! ### Eval -/
section
variable {m : Mem} {s : Nat} {F : List Nat} {most : Int} {l : List ND} {zs z : Bool} {os o : Own} {ar : List Int} {cs : List Int}
end
end Go.Ab

/- The store's list of a diagram, by value. -/
set_option linter.unusedVariables false
set_option linter.unusedSimpArgs false
set_option linter.unusedSectionVars false
set_option maxRecDepth 100000
namespace Go.Ab
open Go.Proofs Go.Proofs.Tryd

theorem ld_box {m : Mem} {nm : Nat} {b : Bool} {v : AV} (h : m.get nm = some (.obj b [v])) : loadA none m (.ptr nm 0) = some v := by
  rw [ld_ptr, h, objE_obj, Option.bind_some]; rfl
theorem st_box {m : Mem} {nm : Nat} {b : Bool} {v0 v : AV} (h : m.get nm = some (.obj b [v0])) (hv : shOk none v = true) (hc : v.cells = [v]) : storeA none m (.ptr nm 0) v = some (m.set nm (some (.obj b [v]))) := by
  rw [st_ptr, h, objE_obj, Option.bind_some]
  simp [putE1, Sh.size, hv, putAt, hc]
theorem ld_bool {m : Mem} {nm i : Nat} {ds : List Bool} (h : m.get nm = some (.obj false (ds.map .bool))) (hi : i < ds.length) : loadA none m (.ptr nm i) = some (.bool (ds.getD i false)) := by
  rw [ld_ptr, h, objE_obj, Option.bind_some, cut1, List.getElem?_map, List.getElem?_eq_getElem hi, List.getD_eq_getElem?_getD, List.getElem?_eq_getElem hi]; rfl
theorem st_bool {m : Mem} {nm i : Nat} {ds : List Bool} {y : Bool} (h : m.get nm = some (.obj false (ds.map .bool))) (hi : i < ds.length) : storeA none m (.ptr nm i) (.bool y) = some (m.set nm (some (.obj false ((ds.set i y).map .bool)))) := by
  have hg : m.obj? nm = some (false, ds.map .bool) := by rw [obj_objE, h]; rfl
  have h1 : i + 1 ≤ ds.length := hi
  simp only [storeA, hg, Option.bind_some, Sh.size, List.length_map, h1, if_true, shOk, atomOk, AV.cells]
  congr 4
  simp only [putAt, List.length_cons, List.length_nil]
  rw [List.map_set, List.set_eq_take_append_cons_drop]
  simp [hi, List.map_take, List.map_drop]
theorem f1v (a b c : AV) : fieldAddrA 1 (.vptr [a, b, c]) = some (.vptr [b, c]) := rfl
theorem f0v (a b c : AV) : fieldAddrA 0 (.vptr [a, b, c]) = some (.vptr [a, b, c]) := rfl
theorem f2v (a b c : AV) : fieldAddrA 2 (.vptr [a, b, c]) = some (.vptr [c]) := rfl
theorem l2v (m : Mem) (a b : AV) : loadA none m (.vptr [a, b]) = some a := rfl
theorem new_s (s : Nat) (m : Mem) (e : Ent) : newAt (some s) m e = (s, m.set s (some e)) := rfl
abbrev NI (z : Bool) (o : Own) (ids : List Nat) : AV := IA z o (ids.map Int.ofNat)
/-- Where the listing stands. -/
structure LS (m0 m : Mem) (b s : Nat) (sb : List Bool) (out : List Nat) (x : AV) (T : List Nat) : Prop where
  hb : b = m0.length
  fr : Fr m0 m []
  h0 : m.get b = some (.obj true [.ptr s 0])
  h1 : m.get (b + 1) = some (.obj true [x])
  h2 : m.get (b + 2) = some (.obj false (sb.map .bool))
  h3 : m.get (b + 3) = some (.obj true [.arr (b + 2) 0 sb.length none])
  h4 : m.get (b + 4) = some (.obj true [.fn 75 [.ptr (b + 3) 0, .ptr b 0, .ptr (b + 4) 0, .ptr (b + 1) 0]])
  gr : GR 3 m x ((out.map Int.ofNat).map (AV.int .i64)) T
  hT : ∀ y ∈ T, b + 5 ≤ y
theorem nodup_lt : ∀ (n : Nat) (l : List Nat), l.Nodup → (∀ x ∈ l, x < n) → l.length ≤ n
  | 0, [], _, _ => Nat.le_refl _
  | 0, x :: l, _, h => by have := h x List.mem_cons_self; omega
  | n + 1, l, hn, h => by
    by_cases hm : n ∈ l
    · have e := List.length_erase_of_mem hm
      have := nodup_lt n (l.erase n) (hn.erase n) fun x hx => by
        have h1 := (hn.mem_erase_iff).1 hx
        have := h x h1.2
        have := h1.1
        omega
      omega
    · have := nodup_lt n l hn fun x hx => by
        have h1 := h x hx
        have : x ≠ n := fun e => hm (e ▸ hx)
        omega
      omega
section
variable {m0 : Mem} {b s : Nat} {F : List Nat} {arms : AV} {most : Int} {l : List ND} {ar : List Int}
def At75 (l : List ND) (m0 : Mem) (b s id : Nat) : Prop := ∀ (m : Mem) (sb : List Bool) (out : List Nat) (x : AV) (T : List Nat), LS m0 m b s sb out x T → sb.length = l.length → Cl l out → (∀ i, i ≤ id → sb.getD i false = decide (i ∈ out)) →
  ∃ (m' : Mem) (sb' : List Bool) (x' : AV) (T' : List Nat), AC cfg 75 [.int .i64 id, .ptr (b + 3) 0, .ptr b 0, .ptr (b + 4) 0, .ptr (b + 1) 0] m = some (.tup [], m') ∧ LS m0 m' b s sb' (Vi l id out) x' T' ∧ sb'.length = l.length ∧
    (∀ i, i ≤ id → sb'.getD i false = decide (i ∈ Vi l id out)) ∧ ∀ i, id < i → sb'.getD i false = sb.getD i false
theorem W75 (g : GoodL ar l) {id : Nat} (hid : id < l.length) (hll : l.length ≤ 100000) (ih : ∀ k, k < id → At75 l m0 b s k) {z : Bool} {o : Own} {kids : List Int} (hk : ∀ k ∈ kids, ∃ t : Nat, k = t ∧ t < id) (hkl : kids.length ≤ 1000) : ∀ (j i : Nat) (m : Mem) (sb : List Bool) (out : List Nat) (x : AV) (T : List Nat), i + j = kids.length → LS m0 m b s sb out x T → sb.length = l.length → Cl l out → (∀ i, i < id → sb.getD i false = decide (i ∈ out)) →
    ∃ (m' : Mem) (sb' : List Bool) (x' : AV) (T' : List Nat), L75_3 (.int .i64 id) (.ptr (b + 4) 0) (.ptr (b + 1) 0) (IA z o kids) (.int .i64 kids.length) (.int .i64 i) m (K75_3 (finK cfg.P f75.results.toList)) = K75_3 (finK cfg.P f75.results.toList) (.exit 0) (O75_3 (.int .i64 id) (.ptr (b + 1) 0) m') ∧
      LS m0 m' b s sb' (Vis l (kids.drop i) out) x' T' ∧ sb'.length = l.length ∧ (∀ i, i < id → sb'.getD i false = decide (i ∈ Vis l (kids.drop i) out) ∨ True) ∧ (∀ q, q < id → sb'.getD q false = decide (q ∈ Vis l (kids.drop i) out)) ∧ ∀ q, id ≤ q → sb'.getD q false = sb.getD q false := by
  intro j
  induction j with
  | zero =>
    intro i m sb out x T hi h hsl hc hsb
    refine ⟨m, sb, x, T, ?_, ?_, hsl, fun _ _ => .inr trivial, ?_, fun _ _ => rfl⟩
    · rw [L75_3_eq, binA_lss, Option.bind_some, ifA_dec, if_neg (by omega)]
    · rw [List.drop_eq_nil_of_le (by omega)]; exact h
    · rw [List.drop_eq_nil_of_le (by omega)]; exact hsb
  | succ j ihj =>
    intro i m sb out x T hi h hsl hc hsb
    have hil : i < kids.length := by omega
    obtain ⟨t, et, ht⟩ := hk _ (List.getElem_mem hil)
    obtain ⟨m1, sb1, x1, T1, e1, k1, k2, k3, k4⟩ := ih t ht m sb out x T h hsl hc (fun q hq => hsb q (by omega))
    obtain ⟨c1, c2, r, c3, c4⟩ := Vi_facts g t (by omega) out hc
    have hsb1 : ∀ q, q < id → sb1.getD q false = decide (q ∈ Vi l t out) := fun q hq => by
      by_cases hqt : q ≤ t
      · exact k3 q hqt
      · rw [k4 q (by omega), hsb q hq]
        refine decide_eq_decide.2 ⟨fun hh => by rw [c3]; exact List.mem_append_left _ hh, fun hh => ?_⟩
        rw [c3] at hh
        rcases List.mem_append.1 hh with hh | hh
        · exact hh
        · have := c4 q hh; omega
    obtain ⟨m', sb', x', T', e2, n1, n2, _, n3, n4⟩ := ihj (i + 1) m1 sb1 (Vi l t out) x1 T1 (by omega) k1 k2 c1 hsb1
    have ed : Vis l (kids.drop i) out = Vis l (kids.drop (i + 1)) (Vi l t out) := by
      rw [List.drop_eq_getElem_cons hil, Vis_cons, et, Int.toNat_natCast]
    refine ⟨m', sb', x', T', ?_, by rw [ed]; exact n1, n2, fun _ _ => .inr trivial, by rw [ed]; exact n3, fun q hq => by rw [n4 q hq, k4 q (by omega)]⟩
    have e1 : AC cfg 75 ([.int .i64 kids[i]] ++ [.ptr (b + 3) 0, .ptr b 0, .ptr (b + 4) 0, .ptr (b + 1) 0]) m = some (.tup [], m1) := by rw [et]; exact e1
    rw [L75_3_eq, binA_lss, Option.bind_some, ifA_dec, if_pos (by omega), idx_IA hil, Option.bind_some, loadA_one, Option.bind_some, ld_box h.h4, Option.bind_some, show fnOf (.fn 75 [.ptr (b + 3) 0, .ptr b 0, .ptr (b + 4) 0, .ptr (b + 1) 0]) = some (75, [.ptr (b + 3) 0, .ptr b 0, .ptr (b + 4) 0, .ptr (b + 1) 0]) from rfl, Option.bind_some, callK_in rfl rfl rfl, e1, Option.bind_some, i_add1 (by omega), Option.bind_some]
    exact e2
theorem A75 (h0 : St8 m0 s F arms most l) (hb : b = m0.length) (g : GoodL ar l) (hll : l.length ≤ 100000) : ∀ id, id < l.length → At75 l m0 b s id := by
  intro id
  induction id using Nat.strongRecOn with
  | ind id ih =>
    intro hid m sb out x T h hsl hc hsb
    have hsb0 := hsb id (Nat.le_refl _)
    have ld3 := ld_box h.h3
    have hixa : indexAddrA none (.arr (b + 2) 0 sb.length none) (.int .i64 id) = some (.ptr (b + 2) id) := index_arr (by omega)
    have st := h0.app h.fr
    obtain ⟨p, na, TT, st, _⟩ := st
    have hs := st.hs
    have hnx := na_idx st.hn hid
    have lb := ld_bool h.h2 (i := id) (by omega)
    have b2 := get_lt h.h2
    have b4 := get_lt h.h4
    have hsm : s < m0.length := by
      obtain ⟨p, na, TT, st0, _⟩ := h0
      exact get_lt st0.hs
    by_cases hm : id ∈ out
    · rw [decide_eq_true hm] at hsb0
      refine ⟨m, sb, x, T, ?_, ?_, hsl, ?_, fun _ _ => rfl⟩
      · rw [T75, ld3, Option.bind_some, hixa, Option.bind_some, lb, Option.bind_some, hsb0, ifA_t]
      · rw [Vi_eq g hid, if_pos hm]; exact h
      · rw [Vi_eq g hid, if_pos hm]; exact hsb
    · rw [decide_eq_false hm] at hsb0
      have sbq := st_bool (y := true) h.h2 (i := id) (by omega)
      have h' : LS m0 (m.set (b + 2) (some (.obj false ((sb.set id true).map .bool)))) b s (sb.set id true) out x T := by
        refine ⟨hb, h.fr.set _ (.inr (by omega)), ?_, ?_, ?_, ?_, ?_, ?_, h.hT⟩
        · rw [g_sne (by omega)]; exact h.h0
        · rw [g_sne (by omega)]; exact h.h1
        · exact g_seq rfl b2
        · rw [g_sne (by omega), List.length_set]; exact h.h3
        · rw [g_sne (by omega)]; exact h.h4
        · exact gr_move h.gr fun y hy => g_sne (by have := h.hT y hy; omega)
      have hsb' : ∀ q, q < id → (sb.set id true).getD q false = decide (q ∈ out) := fun q hq => by
        rw [List.getD_eq_getElem?_getD, List.getElem?_set_ne (by omega), ← List.getD_eq_getElem?_getD]
        exact hsb q (by omega)
      have hkA := kids_IA (st.ok _ (List.getElem_mem hid))
      have hkl : l[id].kids.length ≤ 1000 := by
        rcases st.ok _ (List.getElem_mem hid) with ⟨_, h2, _⟩ | ⟨_, _, _, _, h5⟩
        · rw [h2]; simp
        · omega
      obtain ⟨m1, sb1, x1, T1, e1, k1, k2, _, k3, k4⟩ := W75 g hid hll (fun k hk => ih k hk (by omega)) (z := kz l[id]) (o := ko l[id]) (kids := l[id].kids) (fun k hk => kid_lt g hid k hk) hkl l[id].kids.length 0 _ _ out x T (by omega) h' (by rw [List.length_set]; exact hsl) hc hsb'
      rw [List.drop_zero] at k1 k3
      obtain ⟨c1, c2, r, c3, c4⟩ := Vis_facts g hid l[id].kids (fun k hk => kid_lt g hid k hk) out hc
      have hl2 : (Vis l l[id].kids out).length ≤ l.length := by
        exact nodup_lt _ _ c1.nd c1.lt
      obtain ⟨x2, m2, T2, ea, g2, f2, gg2⟩ := gr_app (b := 8) k1.gr (by simp; omega) (by omega) (.int .i64 (id : Nat))
      have hne : ∀ q, q < b + 5 → q ∉ T1 := fun q hq hT => by have := k1.hT q hT; omega
      have ge : ∀ q, q < b + 5 → m2.get q = m1.get q := fun q hq => f2.get q (by have := get_lt k1.h4; omega) (hne q hq)
      have hl1 := get_lt k1.h4
      have hl12 := f2.len
      have g21 : m2.get (b + 1) = some (.obj true [x1]) := by rw [ge _ (by omega)]; exact k1.h1
      obtain ⟨xz, xo, rfl, _⟩ := gr_out g2
      have sx := st_box (v := .lst none xz xo ((Vis l l[id].kids out).map Int.ofNat |>.map (AV.int .i64) |>.append [.int .i64 id])) g21 rfl rfl
      have eV : Vi l id out = Vis l l[id].kids out ++ [id] := by rw [Vi_eq g hid, if_neg hm]
      have sx : storeA none m2 (.ptr (b + 1) 0) (.lst none xz xo (((Vis l l[id].kids out).map Int.ofNat).map (AV.int .i64) ++ [.int .i64 id])) = some (m2.set (b + 1) (some (.obj true [.lst none xz xo (((Vis l l[id].kids out).map Int.ofNat).map (AV.int .i64) ++ [.int .i64 id])]))) := st_box g21 rfl rfl
      refine ⟨m2.set (b + 1) (some (.obj true [.lst none xz xo (((Vis l l[id].kids out).map Int.ofNat).map (AV.int .i64) ++ [.int .i64 id])])), sb1, .lst none xz xo (((Vis l l[id].kids out).map Int.ofNat).map (AV.int .i64) ++ [.int .i64 id]), T2, ?_, ?_, k2, ?_, ?_⟩
      · rw [T75, ld3, Option.bind_some, hixa, Option.bind_some, lb, Option.bind_some, hsb0, ifA_f]
        rw [Option.bind_some, hixa, Option.bind_some, sbq, Option.bind_some, ld_box h'.h0, Option.bind_some, nil_ptr, Option.bind_some, fa_ptr, Option.bind_some]
        have ldna : loadA none (m.set (b + 2) (some (.obj false ((sb.set id true).map .bool)))) (.ptr s (0 + 1)) = some na := by
          rw [ld_ptr, g_sne (by omega), hs]; rfl
        rw [ldna, Option.bind_some, hnx, Option.bind_some, f1v, Option.bind_some, l2v, Option.bind_some, hkA, len_IA, Option.bind_some]
        have e1 : L75_3 (.int .i64 id) (.ptr (b + 4) 0) (.ptr (b + 1) 0) (IA (kz l[id]) (ko l[id]) l[id].kids) (.int .i64 l[id].kids.length) (.int .i64 0) (m.set (b + 2) (some (.obj false ((sb.set id true).map .bool)))) (K75_3 (finK cfg.P f75.results.toList)) = _ := e1
        rw [e1, K75_3_x0, ld_box k1.h1, Option.bind_some, build_int, Option.bind_some, ea, Option.bind_some, sx, Option.bind_some]
      · rw [eV]
        refine ⟨hb, (Fr.trans k1.fr f2 fun y hy => .inr (by have := k1.hT y hy; omega)).set _ (.inr (by omega)), ?_, ?_, ?_, ?_, ?_, ?_, ?_⟩
        · rw [g_sne (by omega), ge _ (by omega)]; exact k1.h0
        · exact g_seq rfl (by omega)
        · rw [g_sne (by omega), ge _ (by omega)]; exact k1.h2
        · rw [g_sne (by omega), ge _ (by omega)]; exact k1.h3
        · rw [g_sne (by omega), ge _ (by omega)]; exact k1.h4
        · rw [List.map_append, List.map_append]
          refine gr_move g2 fun y hy => g_sne ?_
          rcases gg2 y hy with hh | hh
          · have := k1.hT y hh; omega
          · omega
        · intro y hy
          rcases gg2 y hy with hh | hh
          · exact k1.hT y hh
          · omega
      · intro q hq
        rw [eV]
        by_cases hqi : q = id
        · subst hqi
          rw [k4 q (Nat.le_refl _), List.getD_eq_getElem?_getD, List.getElem?_set_self (by omega), Option.getD_some]
          exact (decide_eq_true (by simp)).symm
        · rw [k3 q (by omega)]
          refine decide_eq_decide.2 ⟨fun hh => List.mem_append_left _ hh, fun hh => ?_⟩
          rcases List.mem_append.1 hh with hh | hh
          · exact hh
          · exact absurd (by simpa using hh) hqi
      · intro q hq
        rw [k4 q (by omega), List.getD_eq_getElem?_getD, List.getElem?_set_ne (by omega), ← List.getD_eq_getElem?_getD]
theorem make_bool (m : Mem) (n : Nat) (h : n ≤ 100000) : makeA none 4 none (.bool false) 1 m (.int .i64 n) (.int .i64 n) = some (.arr m.length 0 n none, m ++ [some (Ent.obj false ((List.replicate n false).map .bool))]) := by
  have h3 : (n : Int) * 1 ≤ 281474976710656 := by omega
  have h4 : (n : Int) ≤ 9223372036854775807 := by omega
  have h5 : (0 : Int) ≤ n := by omega
  simp only [makeA, newAt, zeros, Int.le_refl, if_true, Int.toNat_natCast, List.map_replicate]
  rw [if_pos ⟨h5, trivial, h3, h4⟩]
theorem A61 (h0 : St8 m0 s F arms most l) (g : GoodL ar l) (hll : l.length ≤ 100000) {id : Nat} (hid : id < l.length) : ∃ (m' : Mem) (x : AV) (T : List Nat), AC cfg 61 [.ptr s 0, .int .i64 id] m0 = some (x, m') ∧ GR 3 m' x (((Vi l id []).map Int.ofNat).map (AV.int .i64)) T ∧ Fr m0 m' [] := by
  have hx := h0
  obtain ⟨p, na, TT, h, _⟩ := hx
  have hs := h.hs
  have hsl := get_lt hs
  have hlen : lenA false na = some (.int .i64 l.length) := by
    cases h.hn with
    | none => rfl
    | some t l ht => rw [lenA_lst, List.length_map]
  have mk := fun m => make_bool m l.length hll
  generalize hM : (List.set ((List.set (((m0 ++ [some (Ent.obj true [.ptr s 0])]) ++ [some (Ent.obj true [.lst none true .full []])]) ++ [some (Ent.obj false ((List.replicate l.length false).map .bool))] ++ [some (Ent.obj true [.lst none true .full []])]) (m0.length + 1 + 1 + 1) (some (Ent.obj true [.arr (m0.length + 1 + 1) 0 l.length none]))) ++ [some (Ent.obj true [.nilf])]) (m0.length + 1 + 1 + 1 + 1) (some (Ent.obj true [.fn 75 [.ptr (m0.length + 1 + 1 + 1) 0, .ptr m0.length 0, .ptr (m0.length + 1 + 1 + 1 + 1) 0, .ptr (m0.length + 1) 0]]))) = M
  have ls : LS m0 M m0.length s (List.replicate l.length false) [] (.lst none true .full []) [] := by
    rw [← hM]
    refine ⟨rfl, ?_, (by simp (disch := (first | assumption | omega | (simp only [List.length_append, List.length_set, List.length_cons, List.length_nil]; first | done | omega))) only [resv1, g_lt, g_eq, g_sne, g_seq]; first | done | rfl), (by simp (disch := (first | assumption | omega | (simp only [List.length_append, List.length_set, List.length_cons, List.length_nil]; first | done | omega))) only [resv1, g_lt, g_eq, g_sne, g_seq]; first | done | rfl), (by simp (disch := (first | assumption | omega | (simp only [List.length_append, List.length_set, List.length_cons, List.length_nil]; first | done | omega))) only [resv1, g_lt, g_eq, g_sne, g_seq]; first | done | rfl), ?_, (by simp (disch := (first | assumption | omega | (simp only [List.length_append, List.length_set, List.length_cons, List.length_nil]; first | done | omega))) only [resv1, g_lt, g_eq, g_sne, g_seq]; first | done | rfl), .none, by simp⟩
    · exact ((((((Fr.app m0 _ _).snoc _).snoc _).snoc _).set _ (.inr (by omega))).snoc _).set _ (.inr (by omega))
    · rw [List.length_replicate]; exact (by simp (disch := (first | assumption | omega | (simp only [List.length_append, List.length_set, List.length_cons, List.length_nil]; first | done | omega))) only [resv1, g_lt, g_eq, g_sne, g_seq]; first | done | rfl)
  obtain ⟨m', sb', x', T', e, k1, _, _, _⟩ := A75 h0 rfl g hll id hid M (List.replicate l.length false) [] (.lst none true .full []) [] ls (by simp) cl_nil (fun i hi => by
    rw [List.getD_eq_getElem?_getD, List.getElem?_replicate, if_pos (by omega)]; rfl)
  refine ⟨m', x', T', ?_, k1.gr, k1.fr⟩
  rw [T61]
  repeat ((with_reducible (first | apply bs | apply bsy)); (focus (first | (simp (disch := (first | assumption | omega | (simp only [List.length_append, List.length_set, List.length_cons, List.length_nil]; first | done | omega))) only [List.all_cons, List.all_nil, Bool.and_true, Bool.and_self, beq_self_eq_true, resv1, List.length_map, ld_v3, ld_v1, binA_eql, binA_neq, binA_lss, binA_leq, binA_gtr, binA_geq, loadA_one, un_not, ld_ptr, st_ptr, putE1, objE_obj, Option.bind_some, cut1, cut3, cut4, nil_ptr, fa_ptr, g_lt, g_eq, g_sne, g_seq, new_n, box_n, List.getElem?_cons_zero, List.getElem?_cons_succ, ex0, ex1, Sh.size, cells_int, aok_int, cells_bool, aok_bool, cells_str, aok_str, cells_lst, aok_lst, cells_ptr, aok_ptr, cells_arr, aok_arr, cells_fn, aok_fn, cells_mref, aok_mref, cells_nilp, aok_nilp, cells_agg, shOk_n, shOk_s, lenA_lst, List.length_cons, List.length_nil, if_true, putAt, List.take_succ_cons, List.take_zero, List.drop_succ_cons, List.drop_zero, List.cons_append, List.nil_append, List.append_nil, Nat.zero_add, Nat.reduceAdd, Nat.reduceLeDiff, Nat.le_refl, List.drop_nil, List.take_nil, List.length_append, List.length_set, hs, hlen, mk, box_p]; first | done | rfl) | rfl)); try dsimp only)
  have en : (newAt none (m0 ++ [some (Ent.obj true [.ptr s 0])]) .resv).1 = m0.length + 1 := by simp [new_n]
  rw [callK_in rfl rfl rfl, hM, List.singleton_append, e, Option.bind_some, en]
  dsimp only
  rw [ld_box k1.h1, Option.bind_some]
end
end Go.Ab

/- List: the nodes of a diagram, each with the places of its kids. -/
set_option linter.unusedVariables false
set_option linter.unusedSimpArgs false
set_option linter.unusedSectionVars false
set_option maxRecDepth 100000
namespace Go.Ab
open Go.Proofs Go.Proofs.Tryd

def pe : Nat → List Nat → List (AV × AV)
  | _, [] => []
  | k, i :: l => (.int .i64 i, .int .i64 k) :: pe (k + 1) l
theorem pe_app (n : Nat) : ∀ (l : List Nat) (k : Nat), pe k (l ++ [n]) = pe k l ++ [(.int .i64 n, .int .i64 (k + l.length : Nat))]
  | [], k => rfl
  | x :: l, k => by
    rw [List.cons_append, pe, pe, pe_app n l (k + 1)]
    simp only [List.cons_append, List.length_cons]
    congr 5
    omega
theorem pe_len : ∀ (l : List Nat) (k : Nat), (pe k l).length = l.length
  | [], _ => rfl
  | _ :: l, k => by rw [pe, List.length_cons, pe_len l, List.length_cons]
theorem pe_find {n : Nat} : ∀ (l : List Nat) (k : Nat), (pe k l).find? (fun p => keyB p.1 (.int .i64 n)) = if n ∈ l then some (.int .i64 n, .int .i64 (k + l.idxOf n : Nat)) else none
  | [], k => rfl
  | x :: l, k => by
    have hk : keyB (.int .i64 (x : Int)) (.int .i64 (n : Int)) = decide (x = n) := by
      simp only [keyB, atomB, decide_true, Bool.true_and]
      exact decide_eq_decide.2 (by omega)
    rw [pe, List.find?_cons, hk]
    by_cases he : x = n
    · subst he
      simp
    · rw [decide_eq_false he]
      simp only []
      rw [pe_find l (k + 1)]
      have : n ∈ x :: l ↔ n ∈ l := ⟨fun h => (List.mem_cons.1 h).resolve_left (fun e => he e.symm), List.mem_cons_of_mem _⟩
      by_cases hm : n ∈ l
      · rw [if_pos hm, if_pos (this.2 hm), List.idxOf_cons, cond_eq_ite, if_neg (by simpa using he)]
        congr 3
        omega
      · rw [if_neg hm, if_neg (fun h => hm (this.1 h))]
theorem keyOk_i {n : Nat} (h : n ≤ 1000000) : keyOkA (.int .i64) (.int .i64 n) = true := by
  have h1 : IntKind.min .i64 ≤ (n : Int) := by show (-9223372036854775808 : Int) ≤ n; omega
  have h2 : (n : Int) ≤ IntKind.max .i64 := by show (n : Int) ≤ 9223372036854775807; omega
  simp only [keyOkA, intW, wfI, decide_eq_true h1, decide_eq_true h2, decide_true, Bool.and_self]
theorem look_i {m : Mem} {p n : Nat} {l : List Nat} (hp : m.get p = some (.mp (.int .i64) (pe 0 l))) (hn : n ≤ 1000000) (hm : n ∈ l) (z : AV) : lookA (.int .i64) z m (.mref p) (.int .i64 n) = some (.int .i64 (l.idxOf n : Nat), true) := by
  have h1 : mpA m (.int .i64) (.mref p) = some (p, pe 0 l) := by simp [mpA, hp]
  unfold lookA
  rw [h1]
  simp only [Option.bind_some, keyOk_i hn, if_true, lookE, pe_find l 0, if_pos hm, Nat.zero_add]
theorem upd_i {m : Mem} {p n : Nat} {l : List Nat} (hp : m.get p = some (.mp (.int .i64) (pe 0 l))) (hn : n ≤ 1000000) (hm : n ∉ l) (hl : l.length ≤ 100000) : updA (.int .i64) m (.mref p) (.int .i64 n) (.int .i64 l.length) = some (m.set p (some (.mp (.int .i64) (pe 0 (l ++ [n]))))) := by
  have h1 : mpA m (.int .i64) (.mref p) = some (p, pe 0 l) := by simp [mpA, hp]
  have h3 : (pe 0 l).any (fun p => keyB p.1 (.int .i64 n)) = false := by
    have := pe_find (n := n) l 0
    rw [if_neg hm, List.find?_eq_none] at this
    rw [List.any_eq_false]
    exact this
  unfold updA
  rw [h1, Option.bind_some, if_pos ⟨keyOk_i hn, rfl, by rw [pe_len]; unfold maxLen; omega⟩, pe_app]
  simp only [putE, h3, Nat.zero_add]
theorem nr_app {e : Nat} {m : Mem} {x : AV} {l : List ND} {T : List Nat} (h : NR e m x l T) (hl : l.length ≤ 100000) (n : ND) : ∃ x' m' T', appA none false e (some 3) 40 m x (.lst (some 3) false .full [n.av]) = some (x', m') ∧ NR e m' x' (l ++ [n]) T' ∧ Fr m m' T ∧ Gr m T T' := by
  have h2 : (l.length + 1) * 40 ≤ roomA := by unfold roomA; omega
  cases h with
  | none =>
    refine ⟨.lst (some 3) false (.tok m.length e) [n.av], m ++ [some (Ent.tok 1 3)], [m.length], ?_, .some _ [n] (by simp (disch := (first | assumption | omega | (simp only [List.length_append, List.length_set, List.length_cons, List.length_nil]; first | done | omega))) only [resv1, g_lt, g_eq, g_sne, g_seq]; first | done | rfl), Fr.app m _ _, fun k hk => ?_⟩
    · have h2 : 40 ≤ roomA := by unfold roomA; omega
      simp [appA, h2, newAt, Sh.size]
    · obtain rfl : k = m.length := by simpa using hk
      exact .inr (Nat.le_refl _)
  | some t es ht =>
    have htl := get_lt ht
    refine ⟨.lst (some 3) false (.tok t e) (l.map ND.av ++ [n.av]), m.set t (some (Ent.tok (l.length + 1) 3)), [t], ?_, ?_, (Fr.refl m [t]).set _ (.inl (by simp)), Gr.refl _ _⟩
    · simp [appA, ht, Sh.size, h2]
    · have e3 : l.map ND.av ++ [n.av] = (l ++ [n]).map ND.av := by simp
      rw [e3]
      refine .some t (l ++ [n]) ?_
      rw [g_seq rfl htl, List.length_append]; rfl
/-- A row's parts strip to a node's kids. -/
theorem strip_gr {m : Mem} {x : AV} {ks : List Int} {T : List Nat} (h : GR 3 m x (ks.map (AV.int .i64)) T) {n : ND} (hk : n.kids = ks) (hn : n.ok) (hne : ¬ n.var < 0 → ks ≠ []) : ∃ z o, x = .lst none z o (n.kids.map (AV.int .i64)) ∧ stripA (.lst none z o (n.kids.map (AV.int .i64))) = kidsA n := by
  subst hk
  generalize he : n.kids.map (AV.int .i64) = es at h
  cases h with
  | none =>
    refine ⟨true, .full, rfl, ?_⟩
    unfold kidsA
    rw [if_pos]
    · rfl
    · refine Decidable.byContradiction fun hv => hne hv (List.map_eq_nil_iff.1 he)
  | some t es ht hne2 =>
    refine ⟨false, .tok t 3, rfl, ?_⟩
    unfold kidsA
    rw [if_neg, he]
    · rfl
    · intro hv
      rcases hn with ⟨_, h2, _⟩ | ⟨h1, _⟩
      · rw [h2] at he
        exact hne2 he.symm
      · omega
/-! ### The walk over the ids -/
section
variable {m0 : Mem} {s : Nat} {F : List Nat} {arms : AV} {most : Int} {l : List ND} {ar : List Int}
theorem W25k {pm c : Nat} {p : List Nat} {v leaf : Int} {kids : List Int} {x0 : AV} (hp0 : p.length ≤ 100000) (hpb : ∀ y ∈ p, y ≤ 1000000) {m1 : Mem} (hc : c < m1.length) (hpm : pm < m1.length) (hne : pm ≠ c) {z : Bool} {o : Own} (hk : ∀ k ∈ kids, ∃ t : Nat, k = t ∧ t ∈ p) (hkl : kids.length ≤ 1000) (hp : m1.get pm = some (.mp (.int .i64) (pe 0 p))) (x6 x7 x22 x23 x24 : AV) (hx6 : x6 = .mref pm) (K : Ex → St → Option (AV × Mem)) : ∀ (j i : Nat) (m : Mem) (x : AV) (T : List Nat), i + j = kids.length → Fr m1 m [c] → m.get c = some (.obj true [.int .i64 v, x, .int .i64 leaf]) → GR 3 m x (((kids.take i).map fun k => ((p.idxOf k.toNat : Nat) : Int)).map (AV.int .i64)) T → (∀ y ∈ T, m1.length ≤ y) →
    ∃ (m' : Mem) (x' : AV) (T' : List Nat), L25_13 x0 x6 x7 (.ptr c 0) x22 x23 x24 (IA z o kids) (.int .i64 kids.length) (.int .i64 i) m (K25_13 K) = K25_13 K (.exit 2) (O25_13 x0 x6 x7 (.ptr c 0) x22 x23 x24 m') ∧ Fr m1 m' [c] ∧ m'.get c = some (.obj true [.int .i64 v, x', .int .i64 leaf]) ∧ GR 3 m' x' ((kids.map fun k => ((p.idxOf k.toNat : Nat) : Int)).map (AV.int .i64)) T' ∧ ∀ y ∈ T', m1.length ≤ y := by
  subst hx6
  intro j
  induction j with
  | zero =>
    intro i m x T hi f hg hr hT
    rw [List.take_of_length_le (by omega)] at hr
    refine ⟨m, x, T, ?_, f, hg, hr, hT⟩
    rw [L25_13_eq, binA_lss, Option.bind_some, ifA_dec, if_neg (by omega)]
  | succ j ih =>
    intro i m x T hi f hg hr hT
    have hil : i < kids.length := by omega
    obtain ⟨t, et, ht⟩ := hk _ (List.getElem_mem hil)
    have hcl := get_lt hg
    have hpg : m.get pm = some (.mp (.int .i64) (pe 0 p)) := (f.get _ hpm (by simpa using hne)).trans hp
    have lk := look_i hpg (hpb t ht) ht (.int .i64 0)
    obtain ⟨x2, m2, T2, ea, g2, f2, gg2⟩ := gr_app (b := 8) hr (by simp; omega) (by omega) (.int .i64 (p.idxOf t : Nat))
    have hcT : c ∉ T := fun h => by have := hT c h; omega
    have g2c : m2.get c = some (.obj true [.int .i64 v, x, .int .i64 leaf]) := (f2.get _ hcl hcT).trans hg
    obtain ⟨xz, xo, rfl, _⟩ := gr_out g2
    have st : storeA none m2 (.ptr c (0 + 1)) (.lst none xz xo (((kids.take i).map fun k => ((p.idxOf k.toNat : Nat) : Int)).map (AV.int .i64) ++ [.int .i64 (p.idxOf t : Nat)])) = some (m2.set c (some (.obj true [.int .i64 v, .lst none xz xo (((kids.take i).map fun k => ((p.idxOf k.toNat : Nat) : Int)).map (AV.int .i64) ++ [.int .i64 (p.idxOf t : Nat)]), .int .i64 leaf]))) := by
      rw [st_ptr, g2c, objE_obj, Option.bind_some]; rfl
    have hcl2 := get_lt g2c
    have ek : (((kids.take i).map fun k => ((p.idxOf k.toNat : Nat) : Int)).map (AV.int .i64) ++ [.int .i64 (p.idxOf t : Nat)]) = ((kids.take (i + 1)).map fun k => ((p.idxOf k.toNat : Nat) : Int)).map (AV.int .i64) := by
      rw [List.take_succ_eq_append_getElem hil, List.map_append, List.map_append, et]; rfl
    obtain ⟨m', x', T', e, k⟩ := ih (i + 1) (m2.set c (some (.obj true [.int .i64 v, .lst none xz xo (((kids.take i).map fun k => ((p.idxOf k.toNat : Nat) : Int)).map (AV.int .i64) ++ [.int .i64 (p.idxOf t : Nat)]), .int .i64 leaf]))) _ T2 (by omega) ((Fr.trans f f2 fun y hy => .inr (hT y hy)).set _ (.inl (by simp))) (g_seq rfl hcl2) (by
      rw [← ek]
      exact gr_move g2 fun y hy => g_sne (by
        rcases gg2 y hy with hh | hh
        · have := hT y hh; omega
        · have := f.len; omega)) (fun y hy => by
      rcases gg2 y hy with hh | hh
      · exact hT y hh
      · have := f.len; omega)
    refine ⟨m', x', T', ?_, k⟩
    have ldx : loadA none m (.ptr c (0 + 1)) = some x := by rw [ld_ptr, hg]; rfl
    rw [L25_13_eq, binA_lss, Option.bind_some, ifA_dec, if_pos (by omega), idx_IA hil, Option.bind_some, loadA_one, Option.bind_some, fa_ptr, Option.bind_some, ldx, Option.bind_some, et, lk, Option.bind_some, build_int, Option.bind_some, ea, Option.bind_some, Option.bind_some, st, Option.bind_some, i_add1 (by omega), Option.bind_some]
    exact e
theorem nd_ok (g : GoodL ar l) (hll : l.length ≤ 100000) {p : List Nat} (hp : p.length ≤ 100000) {id : Nat} (hid : id < l.length) : (nd l p id).ok := by
  unfold nd
  rw [getD_at hid]
  rcases g.ok _ (List.getElem_mem hid) with ⟨a1, a2, a3⟩ | ⟨a1, a2, a3, a4, a5⟩
  · refine .inl ⟨a1, ?_, a3⟩
    simp only [a2]; rfl
  · refine .inr ⟨a1, a2, a3, fun k hk => ?_, by simpa using a5⟩
    obtain ⟨q, _, rfl⟩ := List.mem_map.1 hk
    have := List.idxOf_le_length (a := q.toNat) (l := p)
    omega
theorem cl_pre {p q : List Nat} (h : Cl l (p ++ q)) : Cl l p := by
  refine ⟨(List.nodup_append.1 h.nd).1, fun j hj => h.lt j (List.mem_append_left _ hj), fun i hi hj k hk => ?_⟩
  have hi2 : i < (p ++ q).length := by simp; omega
  have e : (p ++ q)[i] = p[i] := List.getElem_append_left hi
  have hj2 : (p ++ q)[i] < l.length := by rw [e]; exact hj
  have := h.cl i hi2 hj2 k (by
    have : ∀ (y : Nat) (hy : y < l.length), y = p[i] → k ∈ l[y].kids := fun y hy ey => by subst ey; exact hk
    exact this _ hj2 e)
  rwa [List.take_append_of_le_length (by omega)] at this
theorem W25 (h0 : St8 m0 s F arms most l) (g : GoodL ar l) (hll : l.length ≤ 100000) (hkn : kidsNe l) {pm : Nat} (hpm : m0.length = pm) {z : Bool} {o : Own} {ids : List Nat} (hc : Cl l ids) : ∀ (q p : List Nat) (m : Mem) (y : AV) (T : List Nat), ids = p ++ q → Fr m0 m [] → m.get pm = some (.mp (.int .i64) (pe 0 p)) → NR 44 m y (mapN l p) T → (∀ k ∈ T, pm < k) →
    ∃ (m' : Mem) (y' : AV) (T' : List Nat), L25_8 (.ptr s 0) (.mref pm) y (NI z o ids) (.int .i64 ids.length) (.int .i64 p.length) m (K25_8 (finK cfg.P f25.results.toList)) = some (.tup [y', .int .i64 0], m') ∧ NR 44 m' y' (mapN l ids) T' ∧ Fr m0 m' [] := by
  have hil : ids.length ≤ l.length := nodup_lt _ _ hc.nd hc.lt
  intro q
  induction q with
  | nil =>
    intro p m y T hpq f hpg hn hT
    rw [List.append_nil] at hpq
    subst hpq
    refine ⟨m, y, T, ?_, hn, f⟩
    rw [L25_8_eq, binA_lss, Option.bind_some, ifA_dec, if_neg (by omega), K25_8_x0]
  | cons id q ihq =>
    intro p m y T hpq f hpg hn hT
    have hcp : Cl l p := by rw [hpq] at hc; exact cl_pre hc
    have hid : id < l.length := hc.lt id (by rw [hpq]; simp)
    have hplen : p.length < ids.length := by rw [hpq]; simp
    have hnot : id ∉ p := fun h => by
      rw [hpq] at hc
      exact (List.nodup_append.1 hc.nd).2.2 id h id List.mem_cons_self rfl
    have hkp : ∀ k ∈ l[id].kids, k.toNat ∈ p := fun k hk => by
      rw [hpq] at hc
      have e : (p ++ id :: q)[p.length]'(by simp) = id := by simp
      have := hc.cl p.length (by simp) (by rw [e]; exact hid) k (by
        have : ∀ (y : Nat) (hy : y < l.length), y = id → k ∈ l[y].kids := fun y hy ey => by subst ey; exact hk
        exact this _ _ e)
      simpa using this
    have hix : indexAddrA none (NI z o ids) (.int .i64 p.length) = some (.vptr [.int .i64 id]) := by
      rw [NI, idx_IA (by simpa using hplen)]
      congr 3
      simp [hpq]
    have hpml := get_lt hpg
    have up := upd_i hpg (n := id) (by omega) hnot (by omega)
    have st := h0.app f
    obtain ⟨pp, na, TT, st, hFF⟩ := st
    have hs := st.hs
    have hsm : s < m0.length := h0.lt s (by rw [hFF]; simp)
    have hnx := na_idx st.hn hid
    have hkA := kids_IA (st.ok _ (List.getElem_mem hid))
    have hkl : l[id].kids.length ≤ 1000 := by
      rcases st.ok _ (List.getElem_mem hid) with ⟨_, h2, _⟩ | ⟨_, _, _, _, h5⟩
      · rw [h2]; simp
      · omega
    have hb : buildA (.agg [(.int .i64 0), (.lst none true .full []), (.int .i64 0)]) [(0, none, .int .i64 l[id].var), (2, none, .int .i64 l[id].leaf)] = some (.agg [.int .i64 l[id].var, .lst none true .full [], .int .i64 l[id].leaf]) := rfl
    generalize hM : List.set (List.set ((m.set pm (some (.mp (.int .i64) (pe 0 (p ++ [id]))))) ++ [some Ent.resv]) m.length (some (Ent.obj true [.int .i64 0, .lst none true .full [], .int .i64 0]))) m.length (some (Ent.obj true [.int .i64 l[id].var, .lst none true .full [], .int .i64 l[id].leaf])) = M
    have fM : Fr m0 M [] := by
      rw [← hM]
      exact (((f.set _ (.inr (by omega))).snoc _).set _ (.inr (by omega))).set _ (.inr (by omega))
    have lM : M.length = m.length + 1 := by rw [← hM]; simp
    have fM2 : Fr m M [pm] := by
      rw [← hM]
      exact ((((Fr.refl m [pm]).set _ (.inl (by simp))).snoc _).set _ (.inr (by omega))).set _ (.inr (by omega))
    have gc : Mem.get M m.length = some (Ent.obj true [.int .i64 l[id].var, .lst none true .full [], .int .i64 l[id].leaf]) := by rw [← hM]; exact (by simp (disch := (first | assumption | omega | (simp only [List.length_append, List.length_set, List.length_cons, List.length_nil]; first | done | omega))) only [resv1, g_lt, g_eq, g_sne, g_seq]; first | done | rfl)
    have gp : Mem.get M pm = some (.mp (.int .i64) (pe 0 (p ++ [id]))) := by rw [← hM]; exact (by simp (disch := (first | assumption | omega | (simp only [List.length_append, List.length_set, List.length_cons, List.length_nil]; first | done | omega))) only [resv1, g_lt, g_eq, g_sne, g_seq]; first | done | rfl)
    have hkp' : ∀ k ∈ l[id].kids, ∃ t : Nat, k = t ∧ t ∈ p ++ [id] := fun k hk => by
      obtain ⟨t, rfl, _⟩ := kid_lt g hid k hk
      exact ⟨t, rfl, List.mem_append_left _ (by simpa using hkp _ hk)⟩
    obtain ⟨m2, xk, Tk, e13, f2, gc2, gk, hTk⟩ := W25k (x0 := .ptr s 0) (pm := pm) (c := m.length) (p := p ++ [id]) (v := l[id].var) (leaf := l[id].leaf) (kids := l[id].kids) (z := kz l[id]) (o := ko l[id]) (m1 := M) (by simp; omega) (fun y hy => by
      have : y < l.length := by
        rcases List.mem_append.1 hy with h | h
        · exact hcp.lt y h
        · obtain rfl : y = id := by simpa using h
          exact hid
      omega) (by omega) (by omega) (by omega) hkp' hkl gp (.mref pm) y (NI z o ids) (.int .i64 ids.length) (.int .i64 p.length) rfl (K25_8 (finK cfg.P f25.results.toList)) l[id].kids.length 0 M _ [] (by omega) (Fr.refl _ _) gc .none (by simp)
    have hndk : (nd l p id).kids = l[id].kids.map fun k => (((p ++ [id]).idxOf k.toNat : Nat) : Int) := by
      rw [← nd_app hid hkp [id]]
      unfold nd
      rw [getD_at hid]
    have hndv : (nd l p id).var = l[id].var ∧ (nd l p id).leaf = l[id].leaf := by
      unfold nd
      rw [getD_at hid]
      exact ⟨rfl, rfl⟩
    have hok := nd_ok g hll (p := p) (by omega) hid
    obtain ⟨kz', ko', rfl, hstr⟩ := strip_gr gk hndk hok (fun hv => by
      rw [hndv.1] at hv
      have := hkn _ (List.getElem_mem hid) hv
      simpa using this)
    have hbs := bsl_nd l[id].var l[id].leaf kz' ko' ((nd l p id).kids.map (AV.int .i64))
    rw [hstr, ← hndv.1, ← hndv.2] at hbs
    have hbs : buildSliceA (some 3) [.agg [.int .i64 (nd l p id).var, .lst none kz' ko' ((nd l p id).kids.map (AV.int .i64)), .int .i64 (nd l p id).leaf]] = some (.lst (some 3) false .full [(nd l p id).av]) := hbs
    have fm2 : Fr m m2 [pm] := Fr.trans fM2 f2 fun x hx => by
      obtain rfl : x = m.length := by simpa using hx
      exact .inr (Nat.le_refl _)
    have n2 : NR 44 m2 y (mapN l p) T := nr_move hn fun k hk => fm2.get k (nr_lt hn k hk) (by have := hT k hk; simp; omega)
    obtain ⟨y3, m3, T3, ea, n3, f3, gg3⟩ := nr_app n2 (by unfold mapN; rw [List.length_map]; omega) (nd l p id)
    rw [← mapN_snoc hcp hid hkp] at n3
    have f03 : Fr m0 m3 [] := Fr.trans (Fr.trans fM f2 fun x hx => by
      obtain rfl : x = m.length := by simpa using hx
      have := f.len
      exact .inr this) f3 fun x hx => .inr (by have := hT x hx; omega)
    have lm2 := f2.len
    have gp3 : m3.get pm = some (.mp (.int .i64) (pe 0 (p ++ [id]))) := by
      rw [f3.get pm (by omega) (fun h => by have := hT pm h; omega), f2.get pm (by omega) (by simp; omega)]
      exact gp
    obtain ⟨m', y', T', e, k⟩ := ihq (p ++ [id]) m3 y3 T3 (by rw [hpq, List.append_assoc]; rfl) f03 gp3 n3 (fun x hx => by
      rcases gg3 x hx with hh | hh
      · exact hT x hh
      · omega)
    refine ⟨m', y', T', ?_, k⟩
    have ld3 : loadA (some 3) m2 (.ptr m.length 0) = some (.agg [.int .i64 (nd l p id).var, .lst none kz' ko' ((nd l p id).kids.map (AV.int .i64)), .int .i64 (nd l p id).leaf]) := by
      rw [ld_ptr, gc2, hndv.1, hndv.2]; rfl
    have e13 : L25_13 (.ptr s 0) (.mref pm) y (.ptr m.length 0) (NI z o ids) (.int .i64 ids.length) (.int .i64 p.length) (IA (kz l[id]) (ko l[id]) l[id].kids) (.int .i64 l[id].kids.length) (.int .i64 0) M (K25_13 (K25_8 (finK cfg.P f25.results.toList))) = _ := e13
    rw [L25_8_eq, binA_lss, Option.bind_some, ifA_dec, if_pos (by omega)]
    repeat ((with_reducible (first | apply bs | apply bsy)); (focus (first | (simp (disch := (first | assumption | omega | (simp only [List.length_append, List.length_set, List.length_cons, List.length_nil]; first | done | omega))) only [List.all_cons, List.all_nil, Bool.and_true, Bool.and_self, beq_self_eq_true, resv1, List.length_map, ld_v3, ld_v1, binA_eql, binA_neq, binA_lss, binA_leq, binA_gtr, binA_geq, loadA_one, un_not, ld_ptr, st_ptr, putE1, objE_obj, Option.bind_some, cut1, cut3, cut4, nil_ptr, fa_ptr, g_lt, g_eq, g_sne, g_seq, new_n, box_n, List.getElem?_cons_zero, List.getElem?_cons_succ, ex0, ex1, Sh.size, cells_int, aok_int, cells_bool, aok_bool, cells_str, aok_str, cells_lst, aok_lst, cells_ptr, aok_ptr, cells_arr, aok_arr, cells_fn, aok_fn, cells_mref, aok_mref, cells_nilp, aok_nilp, cells_agg, shOk_n, shOk_s, lenA_lst, List.length_cons, List.length_nil, if_true, putAt, List.take_succ_cons, List.take_zero, List.drop_succ_cons, List.drop_zero, List.cons_append, List.nil_append, List.append_nil, Nat.zero_add, Nat.reduceAdd, Nat.reduceLeDiff, Nat.le_refl, List.drop_nil, List.take_nil, List.length_append, List.length_set, hix, up, hs, hnx, f0v, f1v, f2v, l2v, hb, new_s, hkA, len_IA]; first | done | rfl) | rfl)); try dsimp only)
    have en : (newAt (some (List.set m pm (some (Ent.mp (.int .i64) (pe 0 (p ++ [id]))))).length) (reserve (List.set m pm (some (Ent.mp (.int .i64) (pe 0 (p ++ [id]))))) 1) .resv).1 = m.length := by rw [new_s]; simp
    rw [en, hM, e13, K25_13_x2, ld3, Option.bind_some, hbs, Option.bind_some, ea, Option.bind_some, i_add1 (by omega), Option.bind_some]
    rw [List.length_append] at e
    exact e
theorem good_kn (g : GoodL ar l) : kidsNe l := fun n hn hv => by
  obtain ⟨i, hi, rfl⟩ := List.getElem_of_mem hn
  obtain ⟨k, hk, _⟩ := g.dif i hi (by omega)
  exact List.ne_nil_of_mem hk
theorem A25 (h0 : St8 m0 s F arms most l) (g : GoodL ar l) (hll : l.length ≤ 100000) (hm : most ≠ 0) {id : Nat} (hid : id < l.length) : ∃ (m' : Mem) (y : AV) (T : List Nat), AC cfg 25 [.ptr s 0, .int .i64 id] m0 = some (.tup [y, .int .i64 0], m') ∧ NR 44 m' y (mapN l (Vi l id [])) T ∧ Fr m0 m' [] := by
  have e50 := A50 h0 hm
  have e56 := A56 h0 id
  rw [decide_eq_true (by omega)] at e56
  have f1 := Fr.app m0 (some (Ent.mp (.int .i64) [])) []
  obtain ⟨m1, x, T, e61, gx, f2⟩ := A61 (h0.app f1) g hll hid
  have f3 : Fr m0 m1 [] := Fr.trans f1 f2 fun _ h => by cases h
  obtain ⟨c1, _, _⟩ := Vi_facts g id hid [] cl_nil
  obtain ⟨xz, xo, rfl, _⟩ := gr_out gx
  have gp : m1.get m0.length = some (.mp (.int .i64) (pe 0 [])) := by
    rw [f2.get _ (by simp) (by simp)]; exact (by simp (disch := (first | assumption | omega | (simp only [List.length_append, List.length_set, List.length_cons, List.length_nil]; first | done | omega))) only [resv1, g_lt, g_eq, g_sne, g_seq]; first | done | rfl)
  obtain ⟨m', y, T', e, k⟩ := W25 h0 g hll (good_kn g) (pm := m0.length) rfl (z := xz) (o := xo) c1 (Vi l id []) [] m1 (.lst none true .full []) [] rfl f3 gp .none (by simp)
  refine ⟨m', y, T', ?_, k⟩
  have hl : lenA false (.lst none xz xo (((Vi l id []).map Int.ofNat).map (AV.int .i64))) = some (.int .i64 (Vi l id []).length) := by
    rw [lenA_lst]; simp
  rw [T25, e50, Option.bind_some, ifA_f, e56, Option.bind_some, un_not, Option.bind_some, Bool.not_true, ifA_f]
  have e61 : AC cfg 61 [.ptr s 0, .int .i64 id] (newAt none m0 (.mp (.int .i64) [])).2 = _ := e61
  rw [e61, Option.bind_some, hl, Option.bind_some]
  exact e
end
end Go.Ab

/- The reference's list of a table, by value. -/
set_option linter.unusedVariables false
set_option linter.unusedSimpArgs false
set_option linter.unusedSectionVars false
set_option maxRecDepth 100000
namespace Go.Ab
open Go.Proofs Go.Proofs.Tryd

theorem st_new3' {m : Mem} {a b c a' b' c' : AV} (hs : shOk (some 3) (.agg [a', b', c']) = true) : storeA (some 3) (m ++ [some (Ent.obj true [a, b, c])]) (.ptr m.length 0) (.agg [a', b', c']) = some (m ++ [some (Ent.obj true [a', b', c'])]) := by
  rw [st_ptr, g_eq rfl, objE_obj, Option.bind_some]
  simp [putE1, Sh.size, hs, putAt, AV.cells]
theorem nr_appS {e : Nat} {m : Mem} {x : AV} {l : List ND} {T : List Nat} (h : NR e m x l T) (hl : l.length ≤ 100000) (n : ND) : ∃ x' m' T', appA (some m.length) false e (some 3) 40 (m ++ [some Ent.resv]) x (.lst (some 3) false .full [n.av]) = some (x', m') ∧ NR e m' x' (l ++ [n]) T' ∧ Fr m m' T ∧ Gr m T T' := by
  have h2 : (l.length + 1) * 40 ≤ roomA := by unfold roomA; omega
  cases h with
  | none =>
    refine ⟨.lst (some 3) false (.tok m.length e) [n.av], (m ++ [some Ent.resv]).set m.length (some (Ent.tok 1 3)), [m.length], ?_, .some _ [n] (by simp (disch := (first | assumption | omega | (simp only [List.length_append, List.length_set, List.length_cons, List.length_nil]; first | done | omega))) only [resv1, g_lt, g_eq, g_sne, g_seq]; first | done | rfl), (Fr.app m _ _).set _ (.inr (Nat.le_refl _)), fun k hk => ?_⟩
    · have h2 : 40 ≤ roomA := by unfold roomA; omega
      simp [appA, h2, newAt, Sh.size]
    · obtain rfl : k = m.length := by simpa using hk
      exact .inr (Nat.le_refl _)
  | some t es ht =>
    have htl := get_lt ht
    have ht' : Mem.get (m ++ [some Ent.resv]) t = some (.tok l.length 3) := by rw [g_lt htl]; exact ht
    refine ⟨.lst (some 3) false (.tok t e) (l.map ND.av ++ [n.av]), (m ++ [some Ent.resv]).set t (some (Ent.tok (l.length + 1) 3)), [t], ?_, ?_, (Fr.app m _ [t]).set _ (.inl (by simp)), Gr.refl _ _⟩
    · simp [appA, ht', Sh.size, h2]
    · have e3 : l.map ND.av ++ [n.av] = (l ++ [n]).map ND.av := by simp
      rw [e3]
      refine .some t (l ++ [n]) ?_
      rw [g_seq rfl (by simp; omega), List.length_append]; rfl
theorem fz_node (a b : Int) (z : Bool) (o : Own) (ks : List AV) : Fz (.agg [.int .i64 a, .lst none z o ks, .int .i64 b]) (.agg [.int .i64 a, stripA (.lst none z o ks), .int .i64 b]) := fun m => by cases o <;> rfl
theorem nr_lst {e : Nat} {m : Mem} {x : AV} {l : List ND} {T : List Nat} (h : NR e m x l T) : ∃ sh z o es, x = .lst sh z o es := by
  cases h with
  | none => exact ⟨_, _, _, _, rfl⟩
  | some t l ht => exact ⟨_, _, _, _, rfl⟩
/-- The search, and the putting behind. -/
theorem A70t {m : Mem} {b q : Nat} {arms x : AV} {L : List ND} {T : List Nat} {n : ND} {z : Bool} {o : Own} (hbg : m.get b = some (.obj true [arms, x])) (h : NR 39 m x L T) (hbT : b ∉ T) (hqb : q ≠ b) (hqT : q ∉ T) (hq : m.get q = some (.obj true [.int .i64 n.var, .lst none z o (n.kids.map (AV.int .i64)), .int .i64 n.leaf]))
    (hk : stripA (.lst none z o (n.kids.map (AV.int .i64))) = kidsA n) (hn : n.ok) (hL : ∀ y ∈ L, y.ok) (hl : L.length ≤ 100000) :
    ∃ (m' : Mem) (x' : AV) (T' : List Nat), L70_18 (.ptr b 0) (.ptr q 0) x (.int .i64 L.length) (.int .i64 0) m (K70_18 (finK cfg.P f70.results.toList)) = some (.int .i64 (L.idxOf n : Nat), m') ∧ m'.get b = some (.obj true [arms, x']) ∧ NR 39 m' x' (ins L n) T' ∧ Fr m m' (b :: T) ∧ Gr m T T' ∧ b ∉ T' := by
  have hbl := get_lt hbg
  have hql := get_lt hq
  have hav : AV.agg [.int .i64 n.var, kidsA n, .int .i64 n.leaf] = n.av := rfl
  have W : ∀ (j i : Nat) (m1 : Mem), i + j = L.length → (∀ t (ht : t < L.length), t < i → L[t] ≠ n) → Fr m m1 [] →
      ∃ m2, L70_18 (.ptr b 0) (.ptr q 0) x (.int .i64 L.length) (.int .i64 i) m1 (K70_18 (finK cfg.P f70.results.toList)) = (if n ∈ L then some (.int .i64 (L.idxOf n : Nat), m2) else K70_18 (finK cfg.P f70.results.toList) (.exit 4) (O70_18 (.ptr b 0) (.ptr q 0) m2)) ∧ Fr m m2 [] := by
    intro j
    induction j with
    | zero =>
      intro i m1 hi hne f
      have hnm : n ∉ L := fun hm => by
        obtain ⟨t, ht, e⟩ := List.getElem_of_mem hm
        exact hne t ht (by omega) e
      refine ⟨m1, ?_, f⟩
      rw [L70_18_eq, binA_lss, Option.bind_some, ifA_dec, if_neg (by omega), if_neg hnm]
    | succ j ih =>
      intro i m1 hi hne f
      have hil : i < L.length := by omega
      have hidx := nr_idx h hil
      have bxi := box_av L[i] m1 (get_len m1)
      have f2 : Fr m (m1 ++ [some (Ent.obj true [.int .i64 L[i].var, kidsA L[i], .int .i64 L[i].leaf])]) [] := f.snoc _
      have gq : Mem.get (m1 ++ [some (Ent.obj true [.int .i64 L[i].var, kidsA L[i], .int .i64 L[i].leaf])]) q = _ := (f2.get q hql (by simp)).trans hq
      have ld1 : loadA (some 3) (m1 ++ [some (Ent.obj true [.int .i64 L[i].var, kidsA L[i], .int .i64 L[i].leaf])]) (.ptr q 0) = some (.agg [.int .i64 n.var, .lst none z o (n.kids.map (AV.int .i64)), .int .i64 n.leaf]) := by
        rw [ld_ptr, gq]; rfl
      have ld2 : loadA (some 3) (m1 ++ [some (Ent.obj true [.int .i64 L[i].var, kidsA L[i], .int .i64 L[i].leaf])]) (.ptr m1.length 0) = some L[i].av := by
        rw [ld_ptr, g_eq rfl]; rfl
      have p60 : pcall (AP cfg) none (m1 ++ [some (Ent.obj true [.int .i64 L[i].var, kidsA L[i], .int .i64 L[i].leaf])]) 60 [.agg [.int .i64 n.var, .lst none z o (n.kids.map (AV.int .i64)), .int .i64 n.leaf], L[i].av] = some (.bool (decide (n = L[i])), m1 ++ [some (Ent.obj true [.int .i64 L[i].var, kidsA L[i], .int .i64 L[i].leaf])]) := by
        rw [pcall2 (fz_node _ _ _ _ _) (fz_av _), hk, hav, V60 hn (hL _ (List.getElem_mem hil))]; rfl
      have e0 : L70_18 (.ptr b 0) (.ptr q 0) x (.int .i64 L.length) (.int .i64 i) m1 (K70_18 (finK cfg.P f70.results.toList)) = ifA (.bool (decide (n = L[i]))) (some (.int .i64 i, m1 ++ [some (Ent.obj true [.int .i64 L[i].var, kidsA L[i], .int .i64 L[i].leaf])])) (L70_18 (.ptr b 0) (.ptr q 0) x (.int .i64 L.length) (.int .i64 (i + 1 : Nat)) (m1 ++ [some (Ent.obj true [.int .i64 L[i].var, kidsA L[i], .int .i64 L[i].leaf])]) (K70_18 (finK cfg.P f70.results.toList))) := by
        rw [L70_18_eq, binA_lss, Option.bind_some, ifA_dec, if_pos (by omega), hidx, Option.bind_some, ld_v3, Option.bind_some, new_n, new_n]
        dsimp only
        rw [bxi, Option.bind_some, ld1, Option.bind_some, ld2, Option.bind_some, p60, Option.bind_some, i_add1 (by omega), Option.bind_some, K70_18_ret]
      rw [e0, ifA_dec]
      by_cases he : n = L[i]
      · have hm : n ∈ L := he ▸ List.getElem_mem hil
        have hix : L.idxOf n = i := idxOf_first hil he.symm hne
        refine ⟨_, ?_, f2⟩
        rw [if_pos he, if_pos hm, hix]
      · rw [if_neg he]
        exact ih (i + 1) _ (by omega) (fun t ht hti => by
          rcases Nat.lt_or_ge t i with hh | hh
          · exact hne t ht hh
          · obtain rfl : t = i := by omega
            exact fun e => he e.symm) f2
  obtain ⟨m2, e2, f2⟩ := W L.length 0 m (by omega) (fun _ _ h => by omega) (Fr.refl _ _)
  have e2 : L70_18 (.ptr b 0) (.ptr q 0) x (.int .i64 L.length) (.int .i64 0) m (K70_18 (finK cfg.P f70.results.toList)) = _ := e2
  rw [e2]
  have gb2 : m2.get b = some (.obj true [arms, x]) := (f2.get b hbl (by simp)).trans hbg
  by_cases hm : n ∈ L
  · rw [if_pos hm, ins, if_pos hm]
    exact ⟨m2, x, T, rfl, gb2, nr_move h fun k hk => f2.get k (nr_lt h k hk) (by simp), f2.mono (by simp), Gr.refl _ _, hbT⟩
  · rw [if_neg hm, ins, if_neg hm, idxOf_not hm]
    have gq2 : Mem.get m2 q = some (.obj true [.int .i64 n.var, .lst none z o (n.kids.map (AV.int .i64)), .int .i64 n.leaf]) := (f2.get q hql (by simp)).trans hq
    have h2 : NR 39 m2 x L T := nr_move h fun k hk => f2.get k (nr_lt h k hk) (by simp)
    obtain ⟨x3, m3, T3, ea, n3, f3, gg3⟩ := nr_appS h2 hl n
    have hbs := bsl_nd n.var n.leaf z o (n.kids.map (AV.int .i64))
    rw [hk, hav] at hbs
    have hb2l := get_lt gb2
    have hq2l := get_lt gq2
    have gb3 : m3.get b = some (.obj true [arms, x]) := (f3.get b hb2l hbT).trans gb2
    have hb3l := get_lt gb3
    have ldx : loadA none (reserve m2 1) (.ptr b (0 + 1)) = some x := by rw [resv1, ld_ptr, g_lt hb2l, gb2]; rfl
    have ldq : loadA (some 3) (reserve m2 1) (.ptr q 0) = some (.agg [.int .i64 n.var, .lst none z o (n.kids.map (AV.int .i64)), .int .i64 n.leaf]) := by rw [resv1, ld_ptr, g_lt hq2l, gq2]; rfl
    obtain ⟨sh3, z3, o3, es3, rfl⟩ := nr_lst n3
    have st : storeA none m3 (.ptr b (0 + 1)) (.lst sh3 z3 o3 es3) = some (m3.set b (some (.obj true [arms, .lst sh3 z3 o3 es3]))) := by
      rw [st_ptr, gb3, objE_obj, Option.bind_some]; rfl
    have ld4 : loadA none (m3.set b (some (.obj true [arms, .lst sh3 z3 o3 es3]))) (.ptr b (0 + 1)) = some (.lst sh3 z3 o3 es3) := by
      rw [ld_ptr, g_seq rfl hb3l]; rfl
    have ln := nr_len n3
    have hbT3 : b ∉ T3 := fun hh => by
      rcases gg3 b hh with h4 | h4
      · exact hbT h4
      · omega
    refine ⟨m3.set b (some (.obj true [arms, .lst sh3 z3 o3 es3])), .lst sh3 z3 o3 es3, T3, ?_, g_seq rfl hb3l, nr_move n3 fun k hk => g_sne (fun e => hbT3 (e ▸ hk)), ?_, ?_, hbT3⟩
    · rw [resv1] at ldx ldq
      rw [K70_18_x4, nil_ptr, Option.bind_some, fa_ptr, Option.bind_some, resv1, ldx, Option.bind_some, ldq, Option.bind_some, hbs, Option.bind_some, ea, Option.bind_some, Option.bind_some, fa_ptr, Option.bind_some, st, Option.bind_some, Option.bind_some, fa_ptr, Option.bind_some, ld4, Option.bind_some, ln, Option.bind_some, List.length_append, i_sub1 (by simp) (by simp; omega), Option.bind_some]
      simp
    · exact ((Fr.trans (f2.mono (F' := b :: T) (by simp)) f3 fun x hx => .inl (by simp [hx])).set _ (.inl (by simp)))
    · intro k hk
      rcases gg3 k hk with h4 | h4
      · exact .inl h4
      · have := f2.len; exact .inr (by omega)
end Go.Ab

/- The reference's list of a table, by value: place. -/
set_option linter.unusedVariables false
set_option linter.unusedSimpArgs false
set_option linter.unusedSectionVars false
set_option maxRecDepth 100000
namespace Go.Ab
open Go.Proofs Go.Proofs.Tryd

theorem gr_tok {e : Nat} {m : Mem} {x : AV} {l : List AV} {T : List Nat} (h : GR e m x l T) : ∀ k ∈ T, ∃ n, m.get k = some (.tok n 1) := by
  cases h with
  | none => simp
  | some t l ht _ =>
    intro k hk
    obtain rfl : k = t := by simpa using hk
    exact ⟨_, ht⟩
/-- What place does. -/
def At70 (l : List ND) (ar : List Int) (za : Bool) (oa : Own) (b v : Nat) : Prop := ∀ (m : Mem) (z : Bool) (o : Own) (part : List Int) (id : Nat) (out : List Nat) (x : AV) (T : List Nat), m.get b = some (.obj true [IA za oa ar, x]) → NR 39 m x (mapN l out) T → b ∉ T → Cl l out → TabV ar l id v part →
  ∃ (m' : Mem) (x' : AV) (T' : List Nat), AC cfg 70 [.ptr b 0, .int .i64 v, IA z o part] m = some (.int .i64 ((Vi l id out).idxOf id : Nat), m') ∧ m'.get b = some (.obj true [IA za oa ar, x']) ∧ NR 39 m' x' (mapN l (Vi l id out)) T' ∧ Fr m m' (b :: T) ∧ Gr m T T' ∧ b ∉ T'
section
variable {l : List ND} {ar : List Int} {za : Bool} {oa : Own} {b v : Nat}
/-- Are all parts the same? -/
theorem W70f {m : Mem} {x : AV} (hbg : m.get b = some (.obj true [IA za oa ar, x])) {z z1 : Bool} {o o1 : Own} {part first : List Int} {a n : Nat} (hv : v < ar.length) (ha : ar[v] = (a : Int)) (ha64 : a ≤ 64) (hp : part.length = a * n) (hpl : part.length ≤ 300) (hf : first.length ≤ 300) (x7 : AV) (K : Ex → St → Option (AV × Mem)) : ∀ (j k : Nat) (fr : Bool), k + j = a →
    ∃ fr' : Bool, L70_7 (.ptr b 0) (.int .i64 v) (IA z o part) x7 (.int .i64 n) (IA z1 o1 first) (.bool fr) (.int .i64 k) m K = K (.exit 0) (O70_7 (.ptr b 0) (.int .i64 v) (IA z o part) x7 (.int .i64 n) (IA z1 o1 first) (.bool fr') m) ∧ (fr' = true ↔ fr = true ∧ ∀ q, k ≤ q → q < a → _root_.Go.Ab.part part n q = first) := by
  have hix : indexAddrA none (IA za oa ar) (.int .i64 v) = some (.vptr [.int .i64 a]) := by rw [idx_IA hv, ha]
  have ldx : loadA none m (.ptr b (0 + 0)) = some (IA za oa ar) := by rw [ld_ptr, hbg]; rfl
  intro j
  induction j with
  | zero =>
    intro k fr hk
    refine ⟨fr, ?_, ⟨fun h => ⟨h, fun q h1 h2 => by omega⟩, fun h => h.1⟩⟩
    rw [L70_7_eq, nil_ptr, Option.bind_some, fa_ptr, Option.bind_some, ldx, Option.bind_some, hix, Option.bind_some, loadA_one, Option.bind_some, n_lss, Option.bind_some, ifA_dec, if_neg (by omega)]
  | succ j ih =>
    intro k fr hk
    have hka : k < a := by omega
    have hkn : (k + 1) * n ≤ part.length := by rw [hp]; exact Nat.mul_le_mul_right _ (by omega)
    have hkn0 : k * n ≤ (k + 1) * n := Nat.mul_le_mul_right _ (by omega)
    have hpk := part_len hp hka
    have hn0 : n ≤ (k + 1) * n := Nat.le_mul_of_pos_left _ (by omega)
    cases fr with
    | false =>
      obtain ⟨fr', e, h⟩ := ih (k + 1) false (by omega)
      refine ⟨fr', ?_, ?_⟩
      · rw [L70_7_eq, nil_ptr, Option.bind_some, fa_ptr, Option.bind_some, ldx, Option.bind_some, hix, Option.bind_some, loadA_one, Option.bind_some, n_lss, Option.bind_some, ifA_dec, if_pos hka, ifA_f, i_add1 (by omega), Option.bind_some]
        exact e
      · rw [h]; simp
    | true =>
      obtain ⟨fr', e, h⟩ := ih (k + 1) (decide (_root_.Go.Ab.part part n k = first)) (by omega)
      refine ⟨fr', ?_, ?_⟩
      · rw [L70_7_eq, nil_ptr, Option.bind_some, fa_ptr, Option.bind_some, ldx, Option.bind_some, hix, Option.bind_some, loadA_one, Option.bind_some, n_lss, Option.bind_some, ifA_dec, if_pos hka, ifA_t, n_mul (by omega), Option.bind_some, i_add1 (by omega), Option.bind_some, n_mul (by omega), Option.bind_some, cut_IA z o part .i64 hkn, Option.bind_some, pc79 z z1 .no o1 _ first (by omega) m, Option.bind_some, Option.bind_some]
        exact e
      · rw [h, decide_eq_true_iff]
        constructor
        · rintro ⟨h1, h2⟩
          refine ⟨rfl, fun q hq1 hq2 => ?_⟩
          by_cases hqk : q = k
          · subst hqk; exact h1
          · exact h2 q (by omega) hq2
        · rintro ⟨_, h2⟩
          exact ⟨h2 k (Nat.le_refl _) hka, fun q hq1 hq2 => h2 q (by omega) hq2⟩
/-- The kids are placed. -/
theorem W70k (g : GoodL ar l) (h1 : ∀ x ∈ ar, 1 ≤ x ∧ x ≤ 64) (hll : l.length ≤ 100000) (hv : v < ar.length) (hal : ar.length ≤ 16) {a n : Nat} (ha : ar[v] = (a : Int)) (hn : n = prodF (ar.drop (v + 1))) {id : Nat} (hid : id < l.length) (hvar : l[id].var = v) {part : List Int} (htab : TabV ar l id v part) (hpl : part.length ≤ 300) (ih : At70 l ar za oa b (v + 1)) {z : Bool} {o : Own}
    {m0 : Mem} {T0 : List Nat} {q : Nat} (hq0 : m0.length ≤ q) (hbq : b < m0.length) (hT0 : ∀ y ∈ T0, y < m0.length) : ∀ (j k : Nat) (m : Mem) (out : List Nat) (x xk : AV) (T Tk : List Nat), k + j = a → m.get b = some (.obj true [IA za oa ar, x]) → NR 39 m x (mapN l out) T → b ∉ T → Cl l out → Fr m0 m (b :: T0) → Gr m0 T0 T → q ∉ T → (∀ i ∈ l[id].kids.take k, i.toNat ∈ out) →
      m.get q = some (.obj true [.int .i64 v, xk, .int .i64 0]) → GR 3 m xk (((l[id].kids.take k).map fun i => ((out.idxOf i.toNat : Nat) : Int)).map (AV.int .i64)) Tk → (∀ y ∈ Tk, m0.length ≤ y ∧ y ∉ T) →
      ∃ (m' : Mem) (x' xk' : AV) (T' Tk' : List Nat), L70_14 (.ptr b 0) (.int .i64 v) (IA z o part) (.ptr q 0) (.int .i64 n) (.int .i64 k) m (K70_14 (finK cfg.P f70.results.toList)) = K70_14 (finK cfg.P f70.results.toList) (.exit 2) (O70_14 (.ptr b 0) (.ptr q 0) m') ∧
        m'.get b = some (.obj true [IA za oa ar, x']) ∧ NR 39 m' x' (mapN l (Vis l (l[id].kids.drop k) out)) T' ∧ b ∉ T' ∧ Fr m0 m' (b :: T0) ∧ Gr m0 T0 T' ∧ q ∉ T' ∧ m'.get q = some (.obj true [.int .i64 v, xk', .int .i64 0]) ∧ GR 3 m' xk' ((l[id].kids.map fun i => (((Vis l (l[id].kids.drop k) out).idxOf i.toNat : Nat) : Int)).map (AV.int .i64)) Tk' := by
  have hget : ar.getD v 0 = (a : Int) := by rw [List.getD_eq_getElem?_getD, List.getElem?_eq_getElem hv, Option.getD_some, ha]
  have hab := h1 _ (List.getElem_mem hv)
  have hkl : l[id].kids.length = a := by
    have := (g.var id hid (by omega)).2
    rw [hvar, Int.toNat_natCast, hget] at this
    omega
  have hp : part.length = a * n := by
    rw [htab.len, prod_step hv, hget, hn]; rfl
  have hix : indexAddrA none (IA za oa ar) (.int .i64 v) = some (.vptr [.int .i64 a]) := by rw [idx_IA hv, ha]
  intro j
  induction j with
  | zero =>
    intro k m out x xk T Tk hk hbg hnr hbT hc f gr hqT hkin hqg hgk hTk
    have hd : l[id].kids.drop k = [] := List.drop_eq_nil_of_le (by omega)
    have ht : l[id].kids.take k = l[id].kids := List.take_of_length_le (by omega)
    rw [ht] at hgk
    have ldx : loadA none m (.ptr b (0 + 0)) = some (IA za oa ar) := by rw [ld_ptr, hbg]; rfl
    refine ⟨m, x, xk, T, Tk, ?_, hbg, by rw [hd]; exact hnr, hbT, f, gr, hqT, hqg, by rw [hd]; exact hgk⟩
    rw [L70_14_eq, nil_ptr, Option.bind_some, fa_ptr, Option.bind_some, ldx, Option.bind_some, hix, Option.bind_some, loadA_one, Option.bind_some, n_lss, Option.bind_some, ifA_dec, if_neg (by omega)]
  | succ j ihj =>
    intro k m out x xk T Tk hk hbg hnr hbT hc f gr hqT hkin hqg hgk hTk
    have hka : k < a := by omega
    have hkk : k < l[id].kids.length := by omega
    have hkn : (k + 1) * n ≤ part.length := by rw [hp]; exact Nat.mul_le_mul_right _ (by omega)
    have hkn0 : k * n ≤ (k + 1) * n := Nat.mul_le_mul_right _ (by omega)
    have ldx : loadA none m (.ptr b (0 + 0)) = some (IA za oa ar) := by rw [ld_ptr, hbg]; rfl
    obtain ⟨t, et, ht⟩ := kid_lt g hid _ (List.getElem_mem hkk)
    have htk := tab_kid g (fun x hx => (h1 x hx).1) hv htab hid hvar (k := k) (by rw [hget]; omega)
    have eg : l[id].kids.getD k 0 = (t : Int) := by rw [List.getD_eq_getElem?_getD, List.getElem?_eq_getElem hkk, Option.getD_some, et]
    rw [eg, Int.toNat_natCast, ← hn] at htk
    have hbl := get_lt hbg
    have hql := get_lt hqg
    obtain ⟨m1, x1, T1, e70, gb1, n1, f1, gr1, hbT1⟩ := ih m z .no _ t out x T hbg hnr hbT hc htk
    obtain ⟨c1, c2, r, c3, c4⟩ := Vi_facts g t htk.lt out hc
    have hqb : q ≠ b := by omega
    have hq1 : m1.get q = some (.obj true [.int .i64 v, xk, .int .i64 0]) := (f1.get q hql (by simp; exact ⟨hqb, hqT⟩)).trans hqg
    have hqT1 : q ∉ T1 := fun hh => by
      rcases gr1 q hh with h4 | h4
      · exact hqT h4
      · omega
    have hgk1 : GR 3 m1 xk (((l[id].kids.take k).map fun i => (((Vi l t out).idxOf i.toNat : Nat) : Int)).map (AV.int .i64)) Tk := by
      have e : ((l[id].kids.take k).map fun i => (((Vi l t out).idxOf i.toNat : Nat) : Int)) = ((l[id].kids.take k).map fun i => ((out.idxOf i.toNat : Nat) : Int)) := List.map_congr_left fun i hi => by
        rw [c3, List.idxOf_append, if_pos (hkin i hi)]
      rw [e]
      exact gr_move hgk fun y hy => f1.get y (gr_lt hgk y hy) (by
        simp only [List.mem_cons, not_or]
        exact ⟨fun e => by have := (hTk y hy).1; omega, (hTk y hy).2⟩)
    obtain ⟨x2, m2, Tk2, ea, g2, f2, gg2⟩ := gr_app (b := 8) hgk1 (by simp; omega) (by omega) (.int .i64 ((Vi l t out).idxOf t : Nat))
    have ntk : ∀ y, y ∉ Tk → y < m1.length → m2.get y = m1.get y := fun y h h' => f2.get y h' h
    have hb1l := get_lt gb1
    have hq1l := get_lt hq1
    have hTkb : b ∉ Tk := fun h => by have := (hTk b h).1; omega
    have hTkq : q ∉ Tk := fun h => by
      have h2 := gr_lt hgk q h
      obtain ⟨k', ht'⟩ := gr_tok hgk q h
      rw [hqg] at ht'; cases ht'
    have gb2 : m2.get b = some (.obj true [IA za oa ar, x1]) := (ntk b hTkb hb1l).trans gb1
    have gq2 : m2.get q = some (.obj true [.int .i64 v, xk, .int .i64 0]) := (ntk q hTkq hq1l).trans hq1
    have hTkT1 : ∀ y ∈ Tk, y ∉ T1 := fun y hy hh => by
      rcases gr1 y hh with h4 | h4
      · exact (hTk y hy).2 h4
      · have := gr_lt hgk y hy; omega
    have n2 : NR 39 m2 x1 (mapN l (Vi l t out)) T1 := nr_move n1 fun y hy => ntk y (fun h => hTkT1 y h hy) (nr_lt n1 y hy)
    have hq2l := get_lt gq2
    obtain ⟨xz, xo, rfl, _⟩ := gr_out g2
    have st : storeA none m2 (.ptr q (0 + 1)) (.lst none xz xo (((l[id].kids.take k).map fun i => (((Vi l t out).idxOf i.toNat : Nat) : Int)).map (AV.int .i64) ++ [.int .i64 ((Vi l t out).idxOf t : Nat)])) = some (m2.set q (some (.obj true [.int .i64 v, .lst none xz xo (((l[id].kids.take k).map fun i => (((Vi l t out).idxOf i.toNat : Nat) : Int)).map (AV.int .i64) ++ [.int .i64 ((Vi l t out).idxOf t : Nat)]), .int .i64 0]))) := by
      rw [st_ptr, gq2, objE_obj, Option.bind_some]; rfl
    have ek : (((l[id].kids.take k).map fun i => (((Vi l t out).idxOf i.toNat : Nat) : Int)).map (AV.int .i64) ++ [.int .i64 ((Vi l t out).idxOf t : Nat)]) = ((l[id].kids.take (k + 1)).map fun i => (((Vi l t out).idxOf i.toNat : Nat) : Int)).map (AV.int .i64) := by
      rw [List.take_succ_eq_append_getElem hkk, List.map_append, List.map_append, et]; rfl
    have hnq : ∀ y ∈ Tk2, y ≠ q := fun y hy e => by
      rcases gg2 y hy with h4 | h4
      · exact hTkq (e ▸ h4)
      · omega
    have ed : Vis l (l[id].kids.drop k) out = Vis l (l[id].kids.drop (k + 1)) (Vi l t out) := by
      rw [List.drop_eq_getElem_cons hkk, Vis_cons, et, Int.toNat_natCast]
    have F1 : Fr m0 m1 (b :: T0) := Fr.trans f f1 fun y hy => by
      rcases List.mem_cons.1 hy with rfl | hy
      · exact .inl (by simp)
      · rcases gr y hy with h4 | h4
        · exact .inl (by simp [h4])
        · exact .inr h4
    have F2 : Fr m0 m2 (b :: T0) := Fr.trans F1 f2 fun y hy => .inr (hTk y hy).1
    obtain ⟨m', x', xk', T', Tk', e, k1, k2, k3, k4, k5, k6, k7, k8⟩ := ihj (k + 1) (m2.set q (some (.obj true [.int .i64 v, .lst none xz xo (((l[id].kids.take k).map fun i => (((Vi l t out).idxOf i.toNat : Nat) : Int)).map (AV.int .i64) ++ [.int .i64 ((Vi l t out).idxOf t : Nat)]), .int .i64 0]))) (Vi l t out) x1 _ T1 Tk2 (by omega)
      (by rw [g_sne (fun e => hqb e.symm)]; exact gb2) (nr_move n2 fun y hy => g_sne (fun e => hqT1 (e ▸ hy))) hbT1 c1 (F2.set _ (.inr hq0)) (Gr.trans f.len gr gr1) hqT1 (fun i hi => by
        rw [List.take_succ_eq_append_getElem hkk] at hi
        rcases List.mem_append.1 hi with hi | hi
        · rw [c3]; exact List.mem_append_left _ (hkin i hi)
        · obtain rfl : i = l[id].kids[k] := by simpa using hi
          rw [et, Int.toNat_natCast]; exact c2) (g_seq rfl hq2l) (by
        rw [← ek]
        exact gr_move g2 fun y hy => g_sne (hnq y hy)) (fun y hy => by
        have l1 := f1.len; have l0 := f.len
        rcases gg2 y hy with h4 | h4
        · exact ⟨(hTk y h4).1, hTkT1 y h4⟩
        · refine ⟨by omega, fun hh => ?_⟩
          have := nr_lt n1 y hh
          omega)
    refine ⟨m', x', xk', T', Tk', ?_, k1, by rw [ed]; exact k2, k3, k4, k5, k6, k7, by rw [ed]; exact k8⟩
    have ldk : loadA none m (.ptr q (0 + 1)) = some xk := by rw [ld_ptr, hqg]; rfl
    have ldk1 : loadA none m1 (.ptr q (0 + 1)) = some xk := by rw [ld_ptr, hq1]; rfl
    rw [L70_14_eq, nil_ptr, Option.bind_some, fa_ptr, Option.bind_some, ldx, Option.bind_some, hix, Option.bind_some, loadA_one, Option.bind_some, n_lss, Option.bind_some, ifA_dec, if_pos hka, fa_ptr, Option.bind_some, ldk, Option.bind_some, i_add1 (by omega), Option.bind_some, n_mul (by omega), Option.bind_some, i_add1 (by omega), Option.bind_some, n_mul (by omega), Option.bind_some, cut_IA z o part .i64 hkn, Option.bind_some, e70, Option.bind_some]
    rw [ifP_pos (by simp only [ldk1, Option.bind_some]), build_int, Option.bind_some, ea, Option.bind_some, Option.bind_some, st, Option.bind_some, Option.bind_some]
    exact e
theorem mapN_ok (g : GoodL ar l) (hll : l.length ≤ 100000) {out : List Nat} (hc : Cl l out) : ∀ y ∈ mapN l out, y.ok := fun y hy => by
  obtain ⟨i, hi, rfl⟩ := List.mem_map.1 hy
  have := nodup_lt _ _ hc.nd hc.lt
  exact nd_ok g hll (by omega) (hc.lt i hi)
theorem A70s (g : GoodL ar l) (h1 : ∀ x ∈ ar, 1 ≤ x ∧ x ≤ 64) (hll : l.length ≤ 100000) (hal : ar.length ≤ 16) (hv : v ≤ ar.length) (hpv : prodF (ar.drop v) ≤ 300) (ih : v < ar.length → At70 l ar za oa b (v + 1)) : At70 l ar za oa b v := by
  intro m z o part id out x T hbg hnr hbT hc htab
  have h1' : ∀ x ∈ ar, 1 ≤ x := fun x hx => (h1 x hx).1
  have hid := htab.lt
  have hpp : 1 ≤ prodF (ar.drop v) := prod_pos fun x hx => h1' x (List.drop_subset _ _ hx)
  have hpl := htab.len
  obtain ⟨c0, ct, ec⟩ := List.exists_cons_of_ne_nil (show part ≠ [] from fun e => by rw [e] at hpl; simp at hpl; omega)
  have hbl := get_lt hbg
  have i0 : indexAddrA none (IA z o part) (.int .i64 0) = some (.vptr [.int .i64 c0]) := by rw [ec]; exact idx_IA0 (by simp)
  have hb : buildA (.agg [(.int .i64 0), (.lst none true .full []), (.int .i64 0)]) [(0, none, (.int .i64 (-1))), (2, none, .int .i64 c0)] = some (.agg [.int .i64 (-1), .lst none true .full [], .int .i64 c0]) := rfl
  have sn := st_new3' (m := m) (a := .int .i64 0) (b := .lst none true .full []) (c := .int .i64 0) (a' := .int .i64 (-1)) (b' := .lst none true .full []) (c' := .int .i64 c0) rfl
  have f4 : Fr m (m ++ [some (Ent.obj true [.int .i64 (-1), .lst none true .full [], .int .i64 c0])]) [] := Fr.app m _ _
  generalize hm4 : m ++ [some (Ent.obj true [.int .i64 (-1), .lst none true .full [], .int .i64 c0])] = m4 at sn f4
  have gq : m4.get m.length = some (Ent.obj true [.int .i64 (-1), .lst none true .full [], .int .i64 c0]) := by rw [← hm4]; exact (by simp (disch := (first | assumption | omega | (simp only [List.length_append, List.length_set, List.length_cons, List.length_nil]; first | done | omega))) only [resv1, g_lt, g_eq, g_sne, g_seq]; first | done | rfl)
  have l4 : m4.length = m.length + 1 := by rw [← hm4]; simp
  have gb4 : m4.get b = some (.obj true [IA za oa ar, x]) := (f4.get b hbl (by simp)).trans hbg
  have n4 : NR 39 m4 x (mapN l out) T := nr_move hnr fun k hk => f4.get k (nr_lt hnr k hk) (by simp)
  have hqT : m.length ∉ T := fun h => by have := nr_lt hnr _ h; omega
  have hol : out.length ≤ l.length := nodup_lt _ _ hc.nd hc.lt
  have p78 := pc78 z o part (by rw [ec]; simp) (by omega) m4
  have e0 : AC cfg 70 [.ptr b 0, .int .i64 v, IA z o part] m = _ := T70 _ _ _ m
  rw [i0, Option.bind_some, loadA_one, Option.bind_some, hb, Option.bind_some, new_n, new_n] at e0
  dsimp only at e0
  rw [sn, Option.bind_some, p78, Option.bind_some, un_not, Option.bind_some, ec, List.headD_cons, ← ec] at e0
  have ldx0 : loadA none m4 (.ptr b (0 + 0)) = some (IA za oa ar) := by rw [ld_ptr, gb4]; rfl
  have ldx1 : loadA none m4 (.ptr b (0 + 1)) = some x := by rw [ld_ptr, gb4]; rfl
  by_cases hall : (part.all fun k => k == c0) = true
  · -- a leaf
    rw [hall, Bool.not_true, ifA_f, nil_ptr, Option.bind_some, fa_ptr, Option.bind_some, ldx1, Option.bind_some, nr_len hnr, Option.bind_some] at e0
    have hleaf := const_leaf g h1' hv htab (c := c0) (fun y hy => by simpa using List.all_eq_true.1 hall y hy)
    have hnd : nd l out id = leafN c0 := by
      unfold nd
      rw [hleaf]; rfl
    rw [getD_at hid] at hleaf
    have hkids : l[id].kids = [] := by rw [hleaf]; rfl
    have hok := nd_ok g hll (p := out) (by omega) hid
    rw [hnd] at hok
    obtain ⟨m5, x5, T5, e5, k1, k2, k3, k4, k5⟩ := A70t (n := leafN c0) (z := true) (o := .full) gb4 n4 hbT (show m.length ≠ b by omega) hqT gq rfl hok (mapN_ok g hll hc) (by unfold mapN; rw [List.length_map]; omega)
    have pr := put_ref g hc hid (by rw [hkids]; simp)
    have eV : Vi l id out = if id ∈ out then out else out ++ [id] := by rw [Vi_fold g hid hc, hkids, Vis_nil]
    rw [hnd, ← eV] at pr
    refine ⟨m5, x5, T5, ?_, k1, by rw [← pr.1]; exact k2, Fr.trans (f4.mono (by simp)) k3 fun y hy => .inl hy, Gr.trans f4.len (Gr.refl _ _) k4, k5⟩
    rw [e0, e5, pr.2]
  · rw [Bool.not_eq_true] at hall
    have hvl : v < ar.length := by
      refine Decidable.byContradiction fun hn => ?_
      have : ar.drop v = [] := List.drop_eq_nil_of_le (by omega)
      rw [this] at hpl
      have hpl : part.length = 1 := hpl
      rw [ec] at hpl hall
      have : ct = [] := by simpa using hpl
      rw [this] at hall
      simp at hall
    have hab := h1 _ (List.getElem_mem hvl)
    obtain ⟨a, ha⟩ := Int.eq_ofNat_of_zero_le (by omega : 0 ≤ ar[v])
    have hget : ar.getD v 0 = (a : Int) := by rw [List.getD_eq_getElem?_getD, List.getElem?_eq_getElem hvl, Option.getD_some, ha]
    have hix : indexAddrA none (IA za oa ar) (.int .i64 v) = some (.vptr [.int .i64 a]) := by rw [idx_IA hvl, ha]
    have hps : prodF (ar.drop v) = a * prodF (ar.drop (v + 1)) := by rw [prod_step hvl, hget]; rfl
    have hn0 : 1 ≤ prodF (ar.drop (v + 1)) := prod_pos fun x hx => h1' x (List.drop_subset _ _ hx)
    have hta : part.length = a * prodF (ar.drop (v + 1)) := by rw [hpl, hps]
    have hle : prodF (ar.drop (v + 1)) ≤ part.length := by rw [hta]; exact Nat.le_mul_of_pos_left _ (by omega)
    have hdiv : part.length / a = prodF (ar.drop (v + 1)) := by rw [hta, Nat.mul_div_cancel_left _ (by omega)]
    have hsl : sliceT none (IA z o part) none (some (.int .i64 (prodF (ar.drop (v + 1)) : Nat))) none = some (IA z .no (_root_.Go.Ab.part part (prodF (ar.drop (v + 1))) 0)) := by
      rw [slice_IA _ _ _ _ _ hle]
      unfold _root_.Go.Ab.part
      rw [Nat.zero_mul, List.drop_zero]
    have hp0 := part_len hta (k := 0) (by omega)
    obtain ⟨fr, e7, hfr⟩ := W70f (z := z) (z1 := z) (o := o) (o1 := .no) (first := _root_.Go.Ab.part part (prodF (ar.drop (v + 1))) 0) gb4 hvl ha (by omega) hta (by omega) (by omega) (.ptr m.length 0) (K70_7 (finK cfg.P f70.results.toList)) (a - 1) 1 true (by omega)
    have e7 : L70_7 (.ptr b 0) (.int .i64 v) (IA z o part) (.ptr m.length 0) (.int .i64 (prodF (ar.drop (v + 1)) : Nat)) (IA z .no (_root_.Go.Ab.part part (prodF (ar.drop (v + 1))) 0)) (.bool true) (.int .i64 1) m4 (K70_7 (finK cfg.P f70.results.toList)) = _ := e7
    rw [hall, Bool.not_false, ifA_t, len_IA, Option.bind_some, nil_ptr, Option.bind_some, fa_ptr, Option.bind_some, ldx0, Option.bind_some, hix, Option.bind_some, loadA_one, Option.bind_some, n_quo (by omega) (by omega), Option.bind_some, hdiv, hsl, Option.bind_some, e7, K70_7_x0] at e0
    have hfr' : fr = true ↔ ∀ k : Nat, (k : Int) < ar.getD v 0 → _root_.Go.Ab.part part (prodF (ar.drop (v + 1))) k = _root_.Go.Ab.part part (prodF (ar.drop (v + 1))) 0 := by
      rw [hfr, hget]
      constructor
      · rintro ⟨_, h⟩ k hk
        by_cases hk0 : k = 0
        · rw [hk0]
        · exact h k (by omega) (by omega)
      · exact fun h => ⟨rfl, fun q _ hq => h q (by omega)⟩
    by_cases hf : fr = true
    · -- the variable does not matter
      rw [hf, ifA_t, i_add1 (by omega), Option.bind_some] at e0
      have ht := free_tab g h1' hvl htab (hfr'.1 hf)
      obtain ⟨m5, x5, T5, e5, k1, k2, k3, k4, k5⟩ := ih hvl m4 z .no _ id out x T gb4 n4 hbT hc ht
      refine ⟨m5, x5, T5, ?_, k1, k2, Fr.trans (f4.mono (by simp)) k3 fun y hy => .inl hy, Gr.trans f4.len (Gr.refl _ _) k4, k5⟩
      rw [e0, e5, Option.bind_some]
    · have hff : fr = false := by simpa using hf
      have hvar := node_tab g h1' hvl htab hid (fun h => hf (hfr'.2 h))
      have hb2 : buildA (.agg [(.int .i64 0), (.lst none true .full []), (.int .i64 0)]) [(0, none, .int .i64 v)] = some (.agg [.int .i64 v, .lst none true .full [], .int .i64 0]) := rfl
      have st : storeA (some 3) m4 (.ptr m.length 0) (.agg [.int .i64 v, .lst none true .full [], .int .i64 0]) = some (m4.set m.length (some (Ent.obj true [.int .i64 v, .lst none true .full [], .int .i64 0]))) := st_agg3 gq rfl
      rw [hff, ifA_f, hb2, Option.bind_some, st, Option.bind_some] at e0
      have f5 : Fr m (m4.set m.length (some (Ent.obj true [.int .i64 v, .lst none true .full [], .int .i64 0]))) (b :: T) := (f4.mono (F' := b :: T) (by simp)).set _ (.inr (Nat.le_refl _))
      obtain ⟨m6, x6, xk, T6, Tk, e14, k1, k2, k3, k4, k5, k6, k7, k8⟩ := W70k g h1 hll hvl hal ha rfl hid hvar htab (by omega) (ih hvl) (z := z) (o := o) (m0 := m) (T0 := T) (q := m.length) (Nat.le_refl _) hbl (nr_lt hnr) a 0 (m4.set m.length (some (Ent.obj true [.int .i64 v, .lst none true .full [], .int .i64 0]))) out x (.lst none true .full []) T [] (by omega)
        (by rw [g_sne (by omega)]; exact gb4) (nr_move n4 fun y hy => g_sne (fun e => hqT (e ▸ hy))) hbT hc f5 (Gr.refl _ _) hqT (by simp) (g_seq rfl (by omega)) .none (by simp)
      rw [List.drop_zero] at k2 k8
      obtain ⟨c1, c2, r, c3, c4⟩ := Vis_facts g hid l[id].kids (fun k hk => kid_lt g hid k hk) out hc
      have hol1 := nodup_lt _ _ c1.nd c1.lt
      have hnk : (nd l (Vis l l[id].kids out) id).kids = l[id].kids.map fun i => (((Vis l l[id].kids out).idxOf i.toNat : Nat) : Int) := by
        unfold nd; rw [getD_at hid]
      have hnv : (nd l (Vis l l[id].kids out) id).var = v := by unfold nd; rw [getD_at hid]; exact hvar
      have hok := nd_ok g hll (p := Vis l l[id].kids out) (by omega) hid
      have hnl : (nd l (Vis l l[id].kids out) id).leaf = 0 := by
        rcases hok with ⟨q1, _⟩ | ⟨_, _, q3, _⟩
        · rw [hnv] at q1; omega
        · exact q3
      have hkne : l[id].kids ≠ [] := good_kn g _ (List.getElem_mem hid) (by omega)
      obtain ⟨kz', ko', rfl, hstr⟩ := strip_gr k8 hnk hok (fun _ => by simpa using hkne)
      have gq6 : m6.get m.length = some (.obj true [.int .i64 (nd l (Vis l l[id].kids out) id).var, .lst none kz' ko' ((nd l (Vis l l[id].kids out) id).kids.map (AV.int .i64)), .int .i64 (nd l (Vis l l[id].kids out) id).leaf]) := by
        rw [k7, hnv, hnl]
      obtain ⟨m7, x7, T7, e18, j1, j2, j3, j4, j5⟩ := A70t (n := nd l (Vis l l[id].kids out) id) (z := kz') (o := ko') k1 k2 k3 (show m.length ≠ b by omega) k6 gq6 hstr hok (mapN_ok g hll c1) (by unfold mapN; rw [List.length_map]; omega)
      have pr := put_ref g c1 hid c2
      rw [← Vi_fold g hid hc] at pr
      refine ⟨m7, x7, T7, ?_, j1, by rw [← pr.1]; exact j2, Fr.trans k4 j3 fun y hy => ?_, Gr.trans k4.len k5 j4, j5⟩
      · have e14 : L70_14 (.ptr b 0) (.int .i64 v) (IA z o part) (.ptr m.length 0) (.int .i64 (prodF (ar.drop (v + 1)) : Nat)) (.int .i64 0) (m4.set m.length (some (Ent.obj true [.int .i64 v, .lst none true .full [], .int .i64 0]))) (K70_14 (finK cfg.P f70.results.toList)) = _ := e14
        have ld6 : loadA none m6 (.ptr b (0 + 1)) = some x6 := by rw [ld_ptr, k1]; rfl
        rw [e0, e14, K70_14_x2, nil_ptr, Option.bind_some, fa_ptr, Option.bind_some, ld6, Option.bind_some, nr_len k2, Option.bind_some, e18, pr.2]
      · rcases List.mem_cons.1 hy with rfl | hy
        · exact .inl (by simp)
        · rcases k5 y hy with h4 | h4
          · exact .inl (by simp [h4])
          · exact .inr h4
theorem A70 (g : GoodL ar l) (h1 : ∀ x ∈ ar, 1 ≤ x ∧ x ≤ 64) (hll : l.length ≤ 100000) (hal : ar.length ≤ 16) : ∀ (d v : Nat), v + d = ar.length → prodF (ar.drop v) ≤ 300 → At70 l ar za oa b v := by
  have h1' : ∀ x ∈ ar, 1 ≤ x := fun x hx => (h1 x hx).1
  intro d
  induction d with
  | zero =>
    intro v hv hpv
    exact A70s g h1 hll hal (by omega) hpv (fun hlt => by omega)
  | succ d ih =>
    intro v hv hpv
    refine A70s g h1 hll hal (by omega) hpv (fun hlt => ih (v + 1) (by omega) ?_)
    have hab := h1 _ (List.getElem_mem hlt)
    have hps := prod_step hlt
    rw [List.getD_eq_getElem?_getD, List.getElem?_eq_getElem hlt, Option.getD_some] at hps
    have : prodF (ar.drop (v + 1)) ≤ prodF (ar.drop v) := by
      rw [hps]; exact Nat.le_mul_of_pos_left _ (by omega)
    omega
end
end Go.Ab

/- What the interpreter does, function by function. -/
set_option maxRecDepth 100000
set_option linter.unusedVariables false
namespace Go.Ab
open Go.Proofs.Tryd
/-! ### sortilege/sortilegelaw23.DiagramTells -/
noncomputable def L6_12 (x7 x9 x10 x74 x75 x76 : AV) (m : Mem) (K : Ex → St → Option (AV × Mem)) : Option (AV × Mem) := loopW (execW cfg 6 (AP cfg) (AC cfg) (c1 (c1 (c2 (c1 (c2 (c2 (c2 (c2 (c2 (c2 (c2 (c2 (bodyOf f6)))))))))))))) (cfg.mask 6 (some 12)) ⟨[.any, .any, .any, .any, .any, .any, .any, x7, .any, x9, x10, .any, .any, .any, .any, .any, .any, .any, .any, .any, .any, .any, .any, .any, .any, .any, .any, .any, .any, .any, .any, .any, .any, .any, .any, .any, .any, .any, .any, .any, .any, .any, .any, .any, .any, .any, .any, .any, .any, .any, .any, .any, .any, .any, .any, .any, .any, .any, .any, .any, .any, .any, .any, .any, .any, .any, .any, .any, .any, .any, .any, .any, .any, .any, x74, x75, x76, .any, .any, .any, .any, .any, .any, .any, .any, .any, .any, .any, .any, .any, .any, .any, .any, .any, .any, .any, .any, .any, .any, .any], m⟩ K
noncomputable abbrev K6_12_0 (K : Ex → St → Option (AV × Mem)) : Ex → St → Option (AV × Mem) := seqK (fun st => execW cfg 6 (AP cfg) (AC cfg) (c2 (c2 (c2 (c2 (c2 (c2 (c2 (c2 (c2 (bodyOf f6)))))))))) st K) K
noncomputable abbrev K6_12_1 (K : Ex → St → Option (AV × Mem)) : Ex → St → Option (AV × Mem) := blockK 0 (K6_12_0 K)
noncomputable abbrev K6_12 (K : Ex → St → Option (AV × Mem)) : Ex → St → Option (AV × Mem) := (K6_12_1 K)
theorem T6 (a0 a1 a2 : AV) (m : Mem) : AC cfg 6 [a0, a1, a2] m =
  (pcall (AP cfg) none m 11 [a0]).bind fun r1 =>
  (pcall (AP cfg) none r1.2 12 [r1.1]).bind fun r2 =>
  (binA .other .neq r2.1 (.int .i64 0)).bind fun v3 =>
  ifA v3 (
  (pcall (AP cfg) none r2.2 13 []).bind fun r4 =>
  some (r4.1, r4.2)) (
  (pcall (AP cfg) none r2.2 28 [r1.1, a1]).bind fun r5 =>
  (pcall (AP cfg) none r5.2 28 [r1.1, a2]).bind fun r6 =>
  (AC cfg 29 [r1.1, r5.1] r6.2).bind fun r7 =>
  (extractA r7.1 0).bind fun v8 =>
  (extractA r7.1 1).bind fun v9 =>
  (extractA r7.1 2).bind fun v10 =>
  (unA .not v10).bind fun v11 =>
  ifA v11 (
  some ((.bool false), r7.2)) (
  (AC cfg 30 [v8, r1.1, r6.1, (.int .i64 0)] r7.2).bind fun r12 =>
  (extractA r12.1 0).bind fun v13 =>
  (extractA r12.1 1).bind fun v14 =>
  (binA .other .neq v14 (.int .i64 0)).bind fun v15 =>
  ifA v15 (
  some ((.bool false), r12.2)) (
  (binA .other .eql v9 v13).bind fun v16 =>
  (pcall (AP cfg) none r12.2 33 [r5.1, r6.1]).bind fun r17 =>
  (binA .bl .neq v16 r17.1).bind fun v18 =>
  ifA v18 (
  some ((.bool false), r17.2)) (
  (AC cfg 34 [v8, v9, r1.1, r5.1] r17.2).bind fun r19 =>
  (unA .not r19.1).bind fun v20 =>
  ifA v20 (
  some ((.bool false), r19.2)) (
  (AC cfg 34 [v8, v13, r1.1, r6.1] r19.2).bind fun r21 =>
  (unA .not r21.1).bind fun v22 =>
  ifA v22 (
  some ((.bool false), r21.2)) (
  (pcall (AP cfg) none r21.2 35 [r1.1]).bind fun r23 =>
  (lenA false r23.1).bind fun v24 =>
  L6_12 r5.1 v8 v9 r23.1 v24 (.int .i64 0) r23.2 (K6_12 (finK cfg.P f6.results.toList)))))))) :=
(AC_eq cfg 6 [a0, a1, a2] m (fn := f6) (c := bodyOf f6) at6 rfl).trans (by kernel_rfl)
end Go.Ab

/- DiagramTells in values. -/
set_option linter.unusedVariables false
set_option linter.unusedSimpArgs false
set_option linter.unusedSectionVars false
set_option maxRecDepth 100000
namespace Go.Ab
open Go.Proofs Go.Proofs.Tryd

theorem nr_ne {e : Nat} {m : Mem} {x : AV} {l : List ND} {T : List Nat} (h : NR e m x l T) (hl : l ≠ []) : ∃ t, x = NL false (.tok t e) l := by
  cases h with
  | none => exact absurd rfl hl
  | some t l ht => exact ⟨t, rfl⟩
theorem V46 {l : List ND} {ar : List Int} (g : GoodL ar l) (h1 : ∀ x ∈ ar, 1 ≤ x ∧ x ≤ 64) (hll : l.length ≤ 100000) (hal : ar.length ≤ 16) (hp : prodF ar ≤ 300) {id : Nat} {t : List Int} (htab : TabV ar l id 0 t) (za z : Bool) (oa o : Own) :
    AP cfg 46 [IA za oa ar, IA z o t] = some (NL false .no (mapN l (Vi l id []))) := by
  have hne : mapN l (Vi l id []) ≠ [] := by
    obtain ⟨_, c2, _⟩ := Vi_facts g id htab.lt [] cl_nil
    intro e
    unfold mapN at e
    rw [List.map_eq_nil_iff] at e
    rw [e] at c2; cases c2
  have hb : buildA (.agg [(.lst none true .full []), (.lst none true .full [])]) [(0, none, IA za oa ar)] = some (.agg [IA za oa ar, .lst none true .full []]) := rfl
  have hx : boxA none (some 2) ([] : Mem) (.agg [IA za oa ar, .lst none true .full []]) = some (.ptr 0 0, [some (Ent.obj true [IA za oa ar, .lst none true .full []])]) := rfl
  obtain ⟨m', x', T', e, k1, k2, _, _, _⟩ := A70 (za := za) (oa := oa) (b := 0) g h1 hll hal ar.length 0 (by omega) hp [some (Ent.obj true [IA za oa ar, .lst none true .full []])] z o t id [] (.lst none true .full []) [] rfl .none (by simp) cl_nil htab
  obtain ⟨tk, rfl⟩ := nr_ne k2 hne
  refine AP_of (m := m') (v := NL false (.tok tk 39) (mapN l (Vi l id []))) (l := []) ?_ rfl rfl
  have e : AC cfg 70 [.ptr 0 0, .int .i64 0, IA z o t] [some (Ent.obj true [IA za oa ar, .lst none true .full []])] = _ := e
  have ld : loadA none m' (.ptr 0 (0 + 1)) = some (NL false (.tok tk 39) (mapN l (Vi l id []))) := by rw [ld_ptr, k1]; rfl
  rw [T46, hb, Option.bind_some, hx, Option.bind_some, e, Option.bind_some, nil_ptr, Option.bind_some, fa_ptr, Option.bind_some, ld, Option.bind_some]
theorem W39 {z : Bool} {o : Own} {L : List ND} (hL : L.length ≤ 100000) : ∀ (q p : List ND) (m : Mem) (x : AV) (T : List Nat), L = p ++ q → NR 39 m x p T →
    ∃ (m' : Mem) (x' : AV) (T' : List Nat), L39_3 x (NL z o L) (.int .i64 L.length) (.int .i64 p.length) m (K39_3 (finK cfg.P f39.results.toList)) = some (x', m') ∧ NR 39 m' x' L T' := by
  intro q
  induction q with
  | nil =>
    intro p m x T hpq h
    rw [List.append_nil] at hpq
    subst hpq
    refine ⟨m, x, T, ?_, h⟩
    rw [L39_3_eq, binA_lss, Option.bind_some, ifA_dec, if_neg (by omega), K39_3_x0]
  | cons n q ih =>
    intro p m x T hpq h
    have hpl : p.length < L.length := by rw [hpq]; simp
    have hat : L[p.length] = n := by simp [hpq]
    have hix := idx_NL (z := z) (o := o) hpl
    rw [hat] at hix
    have bx := box_av n m (get_len m)
    have f1 : Fr m (m ++ [some (Ent.obj true [.int .i64 n.var, kidsA n, .int .i64 n.leaf])]) [] := Fr.app m _ _
    have h2 : NR 39 (m ++ [some (Ent.obj true [.int .i64 n.var, kidsA n, .int .i64 n.leaf])]) x p T := nr_move h fun k hk => f1.get k (nr_lt h k hk) (by simp)
    obtain ⟨x3, m3, T3, ea, n3, _, _⟩ := nr_app h2 (by omega) n
    obtain ⟨m', x', T', e, k⟩ := ih (p ++ [n]) m3 x3 T3 (by rw [hpq, List.append_assoc]; rfl) n3
    refine ⟨m', x', T', ?_, k⟩
    have ld2 : loadA (some 3) (m ++ [some (Ent.obj true [.int .i64 n.var, kidsA n, .int .i64 n.leaf])]) (.ptr m.length 0) = some n.av := by
      rw [ld_ptr, g_eq rfl]; rfl
    have hbs : buildSliceA (some 3) [n.av] = some (.lst (some 3) false .full [n.av]) := bsl_av n
    rw [L39_3_eq, binA_lss, Option.bind_some, ifA_dec, if_pos (by omega), hix, Option.bind_some, ld_v3, Option.bind_some, new_n, new_n]
    dsimp only
    rw [bx, Option.bind_some, ld2, Option.bind_some, hbs, Option.bind_some, ea, Option.bind_some, i_add1 (by omega), Option.bind_some]
    rw [List.length_append] at e
    exact e
theorem V39 (z : Bool) (o : Own) (L : List ND) (hL : L.length ≤ 100000) (hne : L ≠ []) : AP cfg 39 [NL z o L] = some (NL false .no L) := by
  obtain ⟨m', x', T', e, h⟩ := W39 (z := z) (o := o) hL L [] [] (.lst none true .full []) [] rfl .none
  obtain ⟨tk, rfl⟩ := nr_ne h hne
  refine AP_of (m := m') (v := NL false (.tok tk 39) L) (l := []) ?_ rfl rfl
  rw [T39, len_NL, Option.bind_some]
  exact e
theorem A34 {m0 : Mem} {s : Nat} {F : List Nat} {arms : AV} {most : Int} {l : List ND} {ar : List Int} (h0 : St8 m0 s F arms most l) (g : GoodL ar l) (h1 : ∀ x ∈ ar, 1 ≤ x ∧ x ≤ 64) (hll : l.length ≤ 100000) (hm : most ≠ 0) (hal : ar.length ≤ 16) (hp : prodF ar ≤ 300) {id : Nat} {t : List Int} (htab : TabV ar l id 0 t) (za z : Bool) (oa o : Own) :
    ∃ m', AC cfg 34 [.ptr s 0, .int .i64 id, IA za oa ar, IA z o t] m0 = some (.bool true, m') ∧ Fr m0 m' [] := by
  obtain ⟨m1, y, T, e25, hn, f⟩ := A25 h0 g hll hm htab.lt
  obtain ⟨c1, c2, _⟩ := Vi_facts g id htab.lt [] cl_nil
  have hne : mapN l (Vi l id []) ≠ [] := by
    intro e
    unfold mapN at e
    rw [List.map_eq_nil_iff] at e
    rw [e] at c2; cases c2
  obtain ⟨tk, rfl⟩ := nr_ne hn hne
  have hlen : (mapN l (Vi l id [])).length ≤ 100000 := by
    unfold mapN; rw [List.length_map]
    have := nodup_lt _ _ c1.nd c1.lt
    omega
  have hok := mapN_ok g hll c1
  refine ⟨m1, ?_, f⟩
  rw [T34, e25, Option.bind_some, ex0, Option.bind_some, ex1, Option.bind_some, binA_eql, Option.bind_some, ifA_dec, if_pos rfl,
    pcall1 (fz_NL false (.tok tk 44) _), V39 _ _ _ hlen hne, Option.map_some, Option.bind_some,
    pcall2 (fz_IA za oa ar) (fz_IA z o t), V46 g h1 hll hal hp htab, Option.map_some, Option.bind_some, pc22 _ _ _ _ _ _ hok hok hlen, Option.bind_some, decide_eq_true rfl]
theorem pc28 (z zl : Bool) (o ol : Own) (ar l : List Int) (h1 : ar.length ≤ 16) (h2 : ∀ a ∈ ar, 1 ≤ a ∧ a ≤ 64) {N : Nat} (hN : placesF 300 1 ar = N) (hN2 : N ≤ 300) (m : Mem) : ∃ (z' : Bool) (o' : Own) (t : List Int), pcall (AP cfg) none m 28 [IA z o ar, IA zl ol l] = some (IA z' o' t, m) ∧ (z' = true → t = []) ∧ t.length = N ∧ ∀ y ∈ t, 0 ≤ y ∧ y ≤ 4 := by
  obtain ⟨z', o', t, e, h⟩ := V28 z zl o.fr ol.fr ar l h1 h2 hN hN2
  exact ⟨z', o', t, by rw [pcall2 (fz_IA z o ar) (fz_IA zl ol l), e]; rfl, h⟩
/-- Arms that few leaves: how many places. -/
theorem few_places {r : List Int} (hg : goodArms r) (he : armsE r = 0) : placesF 300 1 r = (prodF r : Nat) ∧ prodF r ≤ 300 := by
  obtain ⟨_, h2⟩ := armsE_ok he
  have := places_prod r 1 (fun a ha => (h2 a ha).1) (by omega) (by omega) (hg he)
  rw [Int.one_mul] at this
  exact ⟨this.1, by omega⟩
end Go.Ab

/- What the interpreter does, function by function. -/
set_option maxRecDepth 100000
set_option linter.unusedVariables false
namespace Go.Ab
open Go.Proofs.Tryd
/-! ### (*sortilege/diagram.Store).Apply -/
/-! ### (*sortilege/diagram.Store).Apply$1 -/
/-! ### (*sortilege/diagram.Store).both -/
/-! ### sortilege/diagram.asked -/
/-! ### (*sortilege/diagram.Store).kid -/
/-! ### (*sortilege/diagram.Store).Restrict -/
/-! ### (*sortilege/diagram.Store).Restrict$1 -/
/-! ### (*sortilege/diagram.Store).cut -/
/-! ### (*sortilege/diagram.Store).Load -/
theorem T37 (a0 a1 : AV) (m : Mem) : AC cfg 37 [a0, a1] m =
  (boxA none none m a0).bind fun r1 =>
  (boxA none none r1.2 a1).bind fun r2 =>
  (loadA none r2.2 r1.1).bind fun v3 =>
  (AC cfg 50 [v3] r2.2).bind fun r4 =>
  ifA r4.1 (
  some ((.tup [(.int .i64 0), (.int .i64 4)]), r4.2)) (
  (loadA none r4.2 r1.1).bind fun v5 =>
  (nilA v5).bind fun v6 =>
  (fieldAddrA 0 v6).bind fun v7 =>
  (loadA none r4.2 v7).bind fun v8 =>
  (loadA none r4.2 r2.1).bind fun v9 =>
  (pcall (AP cfg) (some r4.2.length) r4.2 65 [v8, v9]).bind fun r10 =>
  (unA .not r10.1).bind fun v11 =>
  ifA v11 (
  some ((.tup [(.int .i64 0), (.int .i64 1)]), r10.2)) (
  (loadA none r10.2 r1.1).bind fun v12 =>
  (AC cfg 52 [v12, (.fn 66 [r2.1, r1.1])] r10.2).bind fun r13 =>
  (extractA r13.1 0).bind fun v14 =>
  (extractA r13.1 1).bind fun v15 =>
  some ((.tup [v14, v15]), r13.2))) :=
(AC_eq cfg 37 [a0, a1] m (fn := f37) (c := bodyOf f37) at37 rfl).trans (by kernel_rfl)
/-! ### (*sortilege/diagram.Store).Load$1 -/
def O66_3 (x0 x3 : AV) (m : Mem) : St := ⟨[x0, .any, .any, x3, .any, .any, .any, .any, .any, .any, .any, .any, .any, .any, .any, .any, .any, .any, .any, .any, .any, .any, .any, .any, .any, .any, .any, .any, .any, .any, .any, .any, .any, .any, .any, .any, .any, .any, .any, .any, .any, .any, .any, .any, .any, .any, .any, .any, .any, .any, .any, .any, .any, .any, .any, .any, .any, .any, .any, .any, .any, .any, .any, .any], m⟩
noncomputable def L66_3 (x0 x1 x3 x12 x13 x14 : AV) (m : Mem) (K : Ex → St → Option (AV × Mem)) : Option (AV × Mem) := loopW (execW cfg 66 (AP cfg) (AC cfg) (c1 (c1 (c2 (c1 (c2 (c2 (bodyOf f66)))))))) (cfg.mask 66 (some 3)) ⟨[x0, x1, .any, x3, .any, .any, .any, .any, .any, .any, .any, .any, x12, x13, x14, .any, .any, .any, .any, .any, .any, .any, .any, .any, .any, .any, .any, .any, .any, .any, .any, .any, .any, .any, .any, .any, .any, .any, .any, .any, .any, .any, .any, .any, .any, .any, .any, .any, .any, .any, .any, .any, .any, .any, .any, .any, .any, .any, .any, .any, .any, .any, .any, .any], m⟩ K
def O66_9 (x0 x1 x3 x4 x5 x6 x12 x13 x14 : AV) (m : Mem) : St := ⟨[x0, x1, .any, x3, x4, x5, x6, .any, .any, .any, .any, .any, x12, x13, x14, .any, .any, .any, .any, .any, .any, .any, .any, .any, .any, .any, .any, .any, .any, .any, .any, .any, .any, .any, .any, .any, .any, .any, .any, .any, .any, .any, .any, .any, .any, .any, .any, .any, .any, .any, .any, .any, .any, .any, .any, .any, .any, .any, .any, .any, .any, .any, .any, .any], m⟩
noncomputable def L66_9 (x0 x1 x3 x4 x5 x6 x12 x13 x14 x34 x35 x36 : AV) (m : Mem) (K : Ex → St → Option (AV × Mem)) : Option (AV × Mem) := loopW (execW cfg 66 (AP cfg) (AC cfg) (c1 (c1 (c2 (c1 (c2 (c2 (c2 (c1 (c1 (c2 (c2 (c1 (c1 (c2 (c1 (c2 (c2 (bodyOf f66))))))))))))))))))) (cfg.mask 66 (some 9)) ⟨[x0, x1, .any, x3, x4, x5, x6, .any, .any, .any, .any, .any, x12, x13, x14, .any, .any, .any, .any, .any, .any, .any, .any, .any, .any, .any, .any, .any, .any, .any, .any, .any, .any, .any, x34, x35, x36, .any, .any, .any, .any, .any, .any, .any, .any, .any, .any, .any, .any, .any, .any, .any, .any, .any, .any, .any, .any, .any, .any, .any, .any, .any, .any, .any], m⟩ K
noncomputable abbrev K66_3_0 (K : Ex → St → Option (AV × Mem)) : Ex → St → Option (AV × Mem) := seqK (fun st => execW cfg 66 (AP cfg) (AC cfg) (c2 (c2 (c2 (bodyOf f66)))) st K) K
noncomputable abbrev K66_3_1 (K : Ex → St → Option (AV × Mem)) : Ex → St → Option (AV × Mem) := blockK 0 (K66_3_0 K)
noncomputable abbrev K66_3 (K : Ex → St → Option (AV × Mem)) : Ex → St → Option (AV × Mem) := (K66_3_1 K)
noncomputable abbrev K66_9_0 (K : Ex → St → Option (AV × Mem)) : Ex → St → Option (AV × Mem) := seqK (fun st => execW cfg 66 (AP cfg) (AC cfg) (c2 (c2 (c2 (c1 (c1 (c2 (c1 (c2 (c2 (bodyOf f66)))))))))) st (roundG (fun st => loopW (execW cfg 66 (AP cfg) (AC cfg) (c1 (c1 (c2 (c1 (c2 (c2 (bodyOf f66)))))))) (cfg.mask 66 (some 3)) st K) (cfg.mask 66 (some 3)) K)) (roundG (fun st => loopW (execW cfg 66 (AP cfg) (AC cfg) (c1 (c1 (c2 (c1 (c2 (c2 (bodyOf f66)))))))) (cfg.mask 66 (some 3)) st K) (cfg.mask 66 (some 3)) K)
noncomputable abbrev K66_9_1 (K : Ex → St → Option (AV × Mem)) : Ex → St → Option (AV × Mem) := blockK 1 (K66_9_0 K)
noncomputable abbrev K66_9_2 (K : Ex → St → Option (AV × Mem)) : Ex → St → Option (AV × Mem) := seqK (fun st => execW cfg 66 (AP cfg) (AC cfg) (c2 (c2 (c2 (c2 (c1 (c1 (c2 (c2 (c1 (c1 (c2 (c1 (c2 (c2 (bodyOf f66))))))))))))))) st (K66_9_1 K)) (K66_9_1 K)
noncomputable abbrev K66_9_3 (K : Ex → St → Option (AV × Mem)) : Ex → St → Option (AV × Mem) := blockK 2 (K66_9_2 K)
noncomputable abbrev K66_9 (K : Ex → St → Option (AV × Mem)) : Ex → St → Option (AV × Mem) := (K66_9_3 K)
theorem T66 (a0 a1 : AV) (m : Mem) : AC cfg 66 [a0, a1] m =
  (loadA none m a0).bind fun v1 =>
  (lenA false v1).bind fun v2 =>
  (makeA none 3 none (.int .i64 0) 8 m v2 v2).bind fun r3 =>
  (loadA none r3.2 a0).bind fun v4 =>
  (lenA false v4).bind fun v5 =>
  L66_3 a0 a1 r3.1 v4 v5 (.int .i64 0) r3.2 (K66_3 (finK cfg.P f66.results.toList)) :=
(AC_eq cfg 66 [a0, a1] m (fn := f66) (c := bodyOf f66) at66 rfl).trans (by kernel_rfl)
theorem L66_3_eq (x0 x1 x3 x12 x13 x14 : AV) (m : Mem) (K : Ex → St → Option (AV × Mem)) : L66_3 x0 x1 x3 x12 x13 x14 m K =
  (binA .other .lss x14 x13).bind fun v1 =>
  ifA v1 (
  (indexAddrA (some 3) x12 x14).bind fun v2 =>
  (loadA (some 3) m v2).bind fun v3 =>
  (storeA (some 3) (newAt none m (.obj true [(.int .i64 0), (.lst none true .full []), (.int .i64 0)])).2 (.ptr (newAt none m .resv).1 0) v3).bind fun m4 =>
  (fieldAddrA 0 (.ptr (newAt none m .resv).1 0)).bind fun v5 =>
  (loadA none m4 v5).bind fun v6 =>
  (binA .other .lss v6 (.int .i64 0)).bind fun v7 =>
  ifA v7 (
  (loadA none m4 x1).bind fun v8 =>
  (fieldAddrA 2 (.ptr (newAt none m .resv).1 0)).bind fun v9 =>
  (loadA none m4 v9).bind fun v10 =>
  (AC cfg 54 [v8, v10] m4).bind fun r11 =>
  (indexAddrA none x3 x14).bind fun v12 =>
  (storeA none r11.2 v12 r11.1).bind fun m13 =>
  (binA .other .add x14 (.int .i64 1)).bind fun v14 =>
  L66_3 x0 x1 x3 x12 x13 v14 m13 K) (
  (fieldAddrA 1 (.ptr (newAt none m .resv).1 0)).bind fun v15 =>
  (loadA none m4 v15).bind fun v16 =>
  (lenA false v16).bind fun v17 =>
  (makeA none 3 none (.int .i64 0) 8 m4 v17 v17).bind fun r18 =>
  (fieldAddrA 1 (.ptr (newAt none m .resv).1 0)).bind fun v19 =>
  (loadA none r18.2 v19).bind fun v20 =>
  (lenA false v20).bind fun v21 =>
  L66_9 x0 x1 x3 x14 (.ptr (newAt none m .resv).1 0) r18.1 x12 x13 x14 v20 v21 (.int .i64 0) r18.2 (K66_9 K))) (
  K (.exit 0) (O66_3 x0 x3 m)) :=
(loopW_eq (execW_lin _) _ _ _).trans (by kernel_rfl)
theorem L66_9_eq (x0 x1 x3 x4 x5 x6 x12 x13 x14 x34 x35 x36 : AV) (m : Mem) (K : Ex → St → Option (AV × Mem)) : L66_9 x0 x1 x3 x4 x5 x6 x12 x13 x14 x34 x35 x36 m K =
  (binA .other .lss x36 x35).bind fun v1 =>
  ifA v1 (
  (indexAddrA none x34 x36).bind fun v2 =>
  (loadA none m v2).bind fun v3 =>
  (indexAddrA none x3 v3).bind fun v4 =>
  (loadA none m v4).bind fun v5 =>
  (indexAddrA none x6 x36).bind fun v6 =>
  (storeA none m v6 v5).bind fun m7 =>
  (binA .other .add x36 (.int .i64 1)).bind fun v8 =>
  L66_9 x0 x1 x3 x4 x5 x6 x12 x13 x14 x34 x35 v8 m7 K) (
  K (.exit 2) (O66_9 x0 x1 x3 x4 x5 x6 x12 x13 x14 m)) :=
(loopW_eq (execW_lin _) _ _ _).trans (by kernel_rfl)
theorem K66_3_x0 (x0 x3 : AV) (m : Mem) : K66_3 (finK cfg.P f66.results.toList) (.exit 0) (O66_3 x0 x3 m) =
  (loadA none m x0).bind fun v1 =>
  (lenA false v1).bind fun v2 =>
  (binA .other .sub v2 (.int .i64 1)).bind fun v3 =>
  (indexAddrA none x3 v3).bind fun v4 =>
  (loadA none m v4).bind fun v5 =>
  some (v5, m) := by kernel_rfl
theorem K66_9_x2 (x0 x1 x3 x4 x5 x6 x12 x13 x14 : AV) (m : Mem) (K : Ex → St → Option (AV × Mem)) : K66_9 K (.exit 2) (O66_9 x0 x1 x3 x4 x5 x6 x12 x13 x14 m) =
  (loadA none m x1).bind fun v1 =>
  (fieldAddrA 0 x5).bind fun v2 =>
  (loadA none m v2).bind fun v3 =>
  (frzCall (AC cfg) m 59 [v1, v3, x6]).bind fun r4 =>
  (indexAddrA none x3 x4).bind fun v5 =>
  (storeA none r4.2 v5 r4.1).bind fun m6 =>
  (binA .other .add x14 (.int .i64 1)).bind fun v7 =>
  L66_3 x0 x1 x3 x12 x13 v7 m6 K := by kernel_rfl
/-! ### sortilege/diagram.Listed -/
def O65_2 (x1 : AV) (m : Mem) : St := ⟨[.any, x1, .any, .any, .any, .any, .any, .any, .any, .any, .any, .any, .any, .any, .any, .any, .any, .any, .any, .any, .any, .any, .any, .any, .any, .any, .any, .any, .any, .any, .any, .any, .any, .any, .any, .any, .any, .any, .any, .any, .any, .any, .any, .any, .any, .any, .any, .any, .any, .any, .any, .any, .any, .any, .any, .any, .any, .any, .any, .any, .any, .any, .any, .any, .any, .any, .any, .any, .any, .any, .any, .any, .any, .any, .any, .any, .any, .any, .any, .any, .any, .any, .any, .any, .any, .any, .any, .any, .any, .any, .any, .any], m⟩
def R65_2 (x4 : AV) (m : Mem) : St := ⟨[.any, .any, .any, .any, x4, .any, .any, .any, .any, .any, .any, .any, .any, .any, .any, .any, .any, .any, .any, .any, .any, .any, .any, .any, .any, .any, .any, .any, .any, .any, .any, .any, .any, .any, .any, .any, .any, .any, .any, .any, .any, .any, .any, .any, .any, .any, .any, .any, .any, .any, .any, .any, .any, .any, .any, .any, .any, .any, .any, .any, .any, .any, .any, .any, .any, .any, .any, .any, .any, .any, .any, .any, .any, .any, .any, .any, .any, .any, .any, .any, .any, .any, .any, .any, .any, .any, .any, .any, .any, .any, .any, .any], m⟩
noncomputable def L65_2 (x0 x1 x9 x10 x11 : AV) (m : Mem) (K : Ex → St → Option (AV × Mem)) : Option (AV × Mem) := loopW (execW cfg 65 (AP cfg) (AC cfg) (c1 (c1 (c2 (c1 (c2 (bodyOf f65))))))) (cfg.mask 65 (some 2)) ⟨[x0, x1, .any, .any, .any, .any, .any, .any, .any, x9, x10, x11, .any, .any, .any, .any, .any, .any, .any, .any, .any, .any, .any, .any, .any, .any, .any, .any, .any, .any, .any, .any, .any, .any, .any, .any, .any, .any, .any, .any, .any, .any, .any, .any, .any, .any, .any, .any, .any, .any, .any, .any, .any, .any, .any, .any, .any, .any, .any, .any, .any, .any, .any, .any, .any, .any, .any, .any, .any, .any, .any, .any, .any, .any, .any, .any, .any, .any, .any, .any, .any, .any, .any, .any, .any, .any, .any, .any, .any, .any, .any, .any], m⟩ K
def O65_10 (x0 x1 x9 x10 x11 : AV) (m : Mem) : St := ⟨[x0, x1, .any, .any, .any, .any, .any, .any, .any, x9, x10, x11, .any, .any, .any, .any, .any, .any, .any, .any, .any, .any, .any, .any, .any, .any, .any, .any, .any, .any, .any, .any, .any, .any, .any, .any, .any, .any, .any, .any, .any, .any, .any, .any, .any, .any, .any, .any, .any, .any, .any, .any, .any, .any, .any, .any, .any, .any, .any, .any, .any, .any, .any, .any, .any, .any, .any, .any, .any, .any, .any, .any, .any, .any, .any, .any, .any, .any, .any, .any, .any, .any, .any, .any, .any, .any, .any, .any, .any, .any, .any, .any], m⟩
def R65_10 (x4 : AV) (m : Mem) : St := ⟨[.any, .any, .any, .any, x4, .any, .any, .any, .any, .any, .any, .any, .any, .any, .any, .any, .any, .any, .any, .any, .any, .any, .any, .any, .any, .any, .any, .any, .any, .any, .any, .any, .any, .any, .any, .any, .any, .any, .any, .any, .any, .any, .any, .any, .any, .any, .any, .any, .any, .any, .any, .any, .any, .any, .any, .any, .any, .any, .any, .any, .any, .any, .any, .any, .any, .any, .any, .any, .any, .any, .any, .any, .any, .any, .any, .any, .any, .any, .any, .any, .any, .any, .any, .any, .any, .any, .any, .any, .any, .any, .any, .any], m⟩
noncomputable def L65_10 (x0 x1 x5 x6 x9 x10 x11 x56 x57 x58 : AV) (m : Mem) (K : Ex → St → Option (AV × Mem)) : Option (AV × Mem) := loopW (execW cfg 65 (AP cfg) (AC cfg) (c1 (c1 (c2 (c2 (c2 (c2 (c1 (c1 (c2 (c2 (c1 (c1 (c2 (c1 (c2 (bodyOf f65))))))))))))))))) (cfg.mask 65 (some 10)) ⟨[x0, x1, .any, .any, .any, x5, x6, .any, .any, x9, x10, x11, .any, .any, .any, .any, .any, .any, .any, .any, .any, .any, .any, .any, .any, .any, .any, .any, .any, .any, .any, .any, .any, .any, .any, .any, .any, .any, .any, .any, .any, .any, .any, .any, .any, .any, .any, .any, .any, .any, .any, .any, .any, .any, .any, .any, x56, x57, x58, .any, .any, .any, .any, .any, .any, .any, .any, .any, .any, .any, .any, .any, .any, .any, .any, .any, .any, .any, .any, .any, .any, .any, .any, .any, .any, .any, .any, .any, .any, .any, .any, .any], m⟩ K
noncomputable abbrev K65_2_0 (K : Ex → St → Option (AV × Mem)) : Ex → St → Option (AV × Mem) := seqK (fun st => execW cfg 65 (AP cfg) (AC cfg) (c2 (c2 (bodyOf f65))) st K) K
noncomputable abbrev K65_2_1 (K : Ex → St → Option (AV × Mem)) : Ex → St → Option (AV × Mem) := blockK 0 (K65_2_0 K)
noncomputable abbrev K65_2 (K : Ex → St → Option (AV × Mem)) : Ex → St → Option (AV × Mem) := (K65_2_1 K)
noncomputable abbrev K65_10_0 (K : Ex → St → Option (AV × Mem)) : Ex → St → Option (AV × Mem) := seqK (fun st => execW cfg 65 (AP cfg) (AC cfg) (c2 (c2 (c2 (c1 (c1 (c2 (c1 (c2 (bodyOf f65))))))))) st (roundG (fun st => loopW (execW cfg 65 (AP cfg) (AC cfg) (c1 (c1 (c2 (c1 (c2 (bodyOf f65))))))) (cfg.mask 65 (some 2)) st K) (cfg.mask 65 (some 2)) K)) (roundG (fun st => loopW (execW cfg 65 (AP cfg) (AC cfg) (c1 (c1 (c2 (c1 (c2 (bodyOf f65))))))) (cfg.mask 65 (some 2)) st K) (cfg.mask 65 (some 2)) K)
noncomputable abbrev K65_10_1 (K : Ex → St → Option (AV × Mem)) : Ex → St → Option (AV × Mem) := blockK 1 (K65_10_0 K)
noncomputable abbrev K65_10_2 (K : Ex → St → Option (AV × Mem)) : Ex → St → Option (AV × Mem) := blockK 2 (K65_10_1 K)
noncomputable abbrev K65_10 (K : Ex → St → Option (AV × Mem)) : Ex → St → Option (AV × Mem) := (K65_10_2 K)
theorem T65 (a0 a1 : AV) (m : Mem) : AC cfg 65 [a0, a1] m =
  (lenA false a1).bind fun v1 =>
  L65_2 a0 a1 a1 v1 (.int .i64 0) m (K65_2 (finK cfg.P f65.results.toList)) :=
(AC_eq cfg 65 [a0, a1] m (fn := f65) (c := bodyOf f65) at65 rfl).trans (by kernel_rfl)
theorem L65_2_eq (x0 x1 x9 x10 x11 : AV) (m : Mem) (K : Ex → St → Option (AV × Mem)) : L65_2 x0 x1 x9 x10 x11 m K =
  (binA .other .lss x11 x10).bind fun v1 =>
  ifA v1 (
  (indexAddrA (some 3) x9 x11).bind fun v2 =>
  (loadA (some 3) m v2).bind fun v3 =>
  (storeA (some 3) (newAt none m (.obj true [(.int .i64 0), (.lst none true .full []), (.int .i64 0)])).2 (.ptr (newAt none m .resv).1 0) v3).bind fun m4 =>
  (fieldAddrA 0 (.ptr (newAt none m .resv).1 0)).bind fun v5 =>
  (loadA none m4 v5).bind fun v6 =>
  (binA .other .eql v6 (.int .i64 (-1))).bind fun v7 =>
  ifA v7 (
  (fieldAddrA 1 (.ptr (newAt none m .resv).1 0)).bind fun v8 =>
  (loadA none m4 v8).bind fun v9 =>
  (lenA false v9).bind fun v10 =>
  (binA .other .gtr v10 (.int .i64 0)).bind fun v11 =>
  ifA v11 (
  K .ret (R65_2 (.bool false) m4)) (
  (fieldAddrA 2 (.ptr (newAt none m .resv).1 0)).bind fun v12 =>
  (loadA none m4 v12).bind fun v13 =>
  (pcall (AP cfg) none m4 51 [v13]).bind fun r14 =>
  (unA .not r14.1).bind fun v15 =>
  ifA v15 (
  K .ret (R65_2 (.bool false) r14.2)) (
  (binA .other .add x11 (.int .i64 1)).bind fun v16 =>
  L65_2 x0 x1 x9 x10 v16 r14.2 K))) (
  (fieldAddrA 0 (.ptr (newAt none m .resv).1 0)).bind fun v17 =>
  (loadA none m4 v17).bind fun v18 =>
  (binA .other .lss v18 (.int .i64 0)).bind fun v19 =>
  ifA v19 (
  K .ret (R65_2 (.bool false) m4)) (
  (fieldAddrA 0 (.ptr (newAt none m .resv).1 0)).bind fun v20 =>
  (loadA none m4 v20).bind fun v21 =>
  (lenA false x0).bind fun v22 =>
  (binA .other .geq v21 v22).bind fun v23 =>
  ifA v23 (
  K .ret (R65_2 (.bool false) m4)) (
  (fieldAddrA 2 (.ptr (newAt none m .resv).1 0)).bind fun v24 =>
  (loadA none m4 v24).bind fun v25 =>
  (binA .other .neq v25 (.int .i64 0)).bind fun v26 =>
  ifA v26 (
  K .ret (R65_2 (.bool false) m4)) (
  (fieldAddrA 1 (.ptr (newAt none m .resv).1 0)).bind fun v27 =>
  (loadA none m4 v27).bind fun v28 =>
  (lenA false v28).bind fun v29 =>
  (fieldAddrA 0 (.ptr (newAt none m .resv).1 0)).bind fun v30 =>
  (loadA none m4 v30).bind fun v31 =>
  (indexAddrA none x0 v31).bind fun v32 =>
  (loadA none m4 v32).bind fun v33 =>
  (binA .other .neq v29 v33).bind fun v34 =>
  ifA v34 (
  K .ret (R65_2 (.bool false) m4)) (
  (fieldAddrA 1 (.ptr (newAt none m .resv).1 0)).bind fun v35 =>
  (loadA none m4 v35).bind fun v36 =>
  (lenA false v36).bind fun v37 =>
  L65_10 x0 x1 x11 (.ptr (newAt none m .resv).1 0) x9 x10 x11 v36 v37 (.int .i64 0) m4 (K65_10 K))))))) (
  K (.exit 0) (O65_2 x1 m)) :=
(loopW_eq (execW_lin _) _ _ _).trans (by kernel_rfl)
theorem L65_10_eq (x0 x1 x5 x6 x9 x10 x11 x56 x57 x58 : AV) (m : Mem) (K : Ex → St → Option (AV × Mem)) : L65_10 x0 x1 x5 x6 x9 x10 x11 x56 x57 x58 m K =
  (binA .other .lss x58 x57).bind fun v1 =>
  ifA v1 (
  (indexAddrA none x56 x58).bind fun v2 =>
  (loadA none m v2).bind fun v3 =>
  (binA .other .lss v3 (.int .i64 0)).bind fun v4 =>
  ifA v4 (
  K .ret (R65_10 (.bool false) m)) (
  (binA .other .geq v3 x5).bind fun v5 =>
  ifA v5 (
  K .ret (R65_10 (.bool false) m)) (
  (indexAddrA (some 3) x1 v3).bind fun v6 =>
  (fieldAddrA 0 v6).bind fun v7 =>
  (loadA none m v7).bind fun v8 =>
  (binA .other .geq v8 (.int .i64 0)).bind fun v9 =>
  ifA v9 (
  (indexAddrA (some 3) x1 v3).bind fun v10 =>
  (fieldAddrA 0 v10).bind fun v11 =>
  (loadA none m v11).bind fun v12 =>
  (fieldAddrA 0 x6).bind fun v13 =>
  (loadA none m v13).bind fun v14 =>
  (binA .other .leq v12 v14).bind fun v15 =>
  ifA v15 (
  K .ret (R65_10 (.bool false) m)) (
  (binA .other .add x58 (.int .i64 1)).bind fun v16 =>
  L65_10 x0 x1 x5 x6 x9 x10 x11 x56 x57 v16 m K)) (
  (binA .other .add x58 (.int .i64 1)).bind fun v17 =>
  L65_10 x0 x1 x5 x6 x9 x10 x11 x56 x57 v17 m K)))) (
  K (.exit 2) (O65_10 x0 x1 x9 x10 x11 m)) :=
(loopW_eq (execW_lin _) _ _ _).trans (by kernel_rfl)
theorem K65_2_x0 (x1 : AV) (m : Mem) : K65_2 (finK cfg.P f65.results.toList) (.exit 0) (O65_2 x1 m) =
  (lenA false x1).bind fun v1 =>
  (binA .other .gtr v1 (.int .i64 0)).bind fun v2 =>
  some (v2, m) := by kernel_rfl
theorem K65_2_ret (x4 : AV) (m : Mem) : K65_2 (finK cfg.P f65.results.toList) .ret (R65_2 x4 m) =
  some (x4, m) := by kernel_rfl
theorem K65_10_x2 (x0 x1 x9 x10 x11 : AV) (m : Mem) (K : Ex → St → Option (AV × Mem)) : K65_10 K (.exit 2) (O65_10 x0 x1 x9 x10 x11 m) =
  (binA .other .add x11 (.int .i64 1)).bind fun v1 =>
  L65_2 x0 x1 x9 x10 v1 m K := by kernel_rfl
theorem K65_10_ret (x4 : AV) (m : Mem) (K : Ex → St → Option (AV × Mem)) : K65_10 K .ret (R65_10 x4 m) =
  K .ret (R65_2 x4 m) := by kernel_rfl
end Go.Ab

/- Lists of nodes as given: valid or not, by value. -/
set_option linter.unusedVariables false
set_option linter.unusedSimpArgs false
set_option linter.unusedSectionVars false
set_option maxRecDepth 100000
namespace Go.Ab
open Go.Proofs Go.Proofs.Tryd

/-- A node as it is given. -/
structure RN where
  var : Int
  z : Bool
  o : Own
  kids : List Int
  leaf : Int
def RN0 : RN := ⟨0, true, .full, [], 0⟩
def RN.av (x : RN) : AV := .agg [.int .i64 x.var, IA x.z x.o x.kids, .int .i64 x.leaf]
abbrev RL (z : Bool) (o : Own) (L : List RN) : AV := .lst (some 3) z o (L.map RN.av)
theorem len_RL (z : Bool) (o : Own) (L : List RN) : lenA false (RL z o L) = some (.int .i64 L.length) := by rw [lenA_lst, List.length_map]
theorem idx_RL {z : Bool} {o : Own} {L : List RN} {i : Nat} (hi : i < L.length) : indexAddrA (some 3) (RL z o L) (.int .i64 i) = some (.vptr [.int .i64 L[i].var, IA L[i].z L[i].o L[i].kids, .int .i64 L[i].leaf]) := by
  simp [indexAddrA, hi]; rfl
def kidB (L : List RN) (i : Nat) (v k : Int) : Bool := decide (0 ≤ k ∧ k < i) && decide ((L.getD k.toNat RN0).var = -1 ∨ v < (L.getD k.toNat RN0).var)
def okN (ar : List Int) (L : List RN) (i : Nat) (x : RN) : Bool := if x.var = -1 then decide (x.kids = [] ∧ 0 ≤ x.leaf ∧ x.leaf ≤ 2147483647) else decide (0 ≤ x.var ∧ x.var < ar.length ∧ x.leaf = 0 ∧ (x.kids.length : Int) = ar.getD x.var.toNat 0) && x.kids.all (kidB L i x.var)
/-- Are the nodes from the i-th on valid (and is there one)? -/
def okF (ar : List Int) (L : List RN) : Nat → Nat → Bool
  | 0, _ => decide (0 < L.length)
  | j + 1, i => okN ar L i (L.getD i RN0) && okF ar L j (i + 1)
theorem okN_var {ar : List Int} {L : List RN} {i : Nat} {x : RN} (h : okN ar L i x = true) : x.var = -1 ∨ 0 ≤ x.var := by
  unfold okN at h
  split at h
  · exact .inl (by assumption)
  · simp only [Bool.and_eq_true, decide_eq_true_eq] at h
    exact .inr h.1.1
theorem fz_RL (z : Bool) (o : Own) (L : List RN) : Fz (RL z o L) (RL z o.fr L) := fun m => by cases o <;> rfl
theorem W65k {za zl z zr : Bool} {oa ol o orr : Own} {ar : List Int} {L : List RN} {i : Nat} {x : RN} {m : Mem} {q : Nat} (hi : i < L.length) (hl : L.length ≤ 100000) (hx : x.kids.length ≤ 100000) (hq : m.get q = some (.obj true [.int .i64 x.var, IA x.z x.o x.kids, .int .i64 x.leaf])) (hprev : ∀ k (h : k < i), (L.getD k RN0).var = -1 ∨ 0 ≤ (L.getD k RN0).var) (x9 x10 x11 : AV) : ∀ j c : Nat, c + j = x.kids.length →
    L65_10 (IA za oa ar) (RL zl ol L) (.int .i64 i) (.ptr q 0) x9 x10 x11 (IA z o x.kids) (.int .i64 x.kids.length) (.int .i64 c) m (K65_10 (K65_2 (finK cfg.P f65.results.toList))) = if (x.kids.drop c).all (kidB L i x.var) then K65_10 (K65_2 (finK cfg.P f65.results.toList)) (.exit 2) (O65_10 (IA za oa ar) (RL zl ol L) x9 x10 x11 m) else some (.bool false, m)
  | 0, c, h => by
    rw [L65_10_eq, binA_lss, Option.bind_some, ifA_dec, if_neg (by omega), List.drop_eq_nil_of_le (by omega)]; rfl
  | j + 1, c, h => by
    have hc : c < x.kids.length := by omega
    have ih := W65k (za := za) (zl := zl) (z := z) (zr := zr) (oa := oa) (ol := ol) (o := o) (orr := orr) (ar := ar) hi hl hx hq hprev x9 x10 x11 j (c + 1) (by omega)
    have ldq : loadA none m (.ptr q (0 + 0)) = some (.int .i64 x.var) := by rw [ld_ptr, hq]; rfl
    rw [L65_10_eq, binA_lss, Option.bind_some, ifA_dec, if_pos (by omega), idx_IA hc, Option.bind_some, loadA_one, Option.bind_some, binA_lss, Option.bind_some, ifA_dec, List.drop_eq_getElem_cons hc, List.all_cons]
    by_cases h1 : x.kids[c] < 0
    · rw [if_pos h1, K65_10_ret, K65_2_ret, kidB, decide_eq_false (by omega), Bool.false_and, Bool.false_and]; rfl
    · rw [if_neg h1, binA_geq, Option.bind_some, ifA_dec]
      by_cases h2 : x.kids[c] ≥ i
      · rw [if_pos h2, K65_10_ret, K65_2_ret, kidB, decide_eq_false (by omega), Bool.false_and, Bool.false_and]; rfl
      · obtain ⟨k, hk⟩ := Int.eq_ofNat_of_zero_le (by omega : 0 ≤ x.kids[c])
        have hki : k < i := by omega
        have hkl : k < L.length := by omega
        have hkp := hprev k hki
        have hg : L.getD k RN0 = L[k] := by rw [List.getD_eq_getElem?_getD, List.getElem?_eq_getElem hkl, Option.getD_some]
        rw [hg] at hkp
        have l3 : ∀ (a b c : AV), loadA none m (.vptr [a, b, c]) = some a := fun _ _ _ => rfl
        have hb1 : decide (0 ≤ (k : Int) ∧ (k : Int) < i) = true := decide_eq_true (by omega)
        rw [if_neg h2, hk, idx_RL hkl, Option.bind_some, f0v, Option.bind_some, l3, Option.bind_some, binA_geq, Option.bind_some, ifA_dec, kidB, hb1, Bool.true_and, Int.toNat_natCast, hg]
        by_cases h3 : L[k].var ≥ 0
        · rw [if_pos h3, Option.bind_some, f0v, Option.bind_some, l3, Option.bind_some, fa_ptr, Option.bind_some, ldq, Option.bind_some, binA_leq, Option.bind_some, ifA_dec]
          by_cases h4 : L[k].var ≤ x.var
          · rw [if_pos h4, K65_10_ret, K65_2_ret, decide_eq_false (by omega), Bool.false_and]; rfl
          · rw [if_neg h4, i_add1 (by omega), Option.bind_some, ih, decide_eq_true (by omega), Bool.true_and]
        · rw [if_neg h3, i_add1 (by omega), Option.bind_some, ih, decide_eq_true (by omega), Bool.true_and]
theorem W65 {za zl z : Bool} {oa ol o : Own} {ar : List Int} {L : List RN} (hl : L.length ≤ 100000) (hx : ∀ a ∈ ar, 1 ≤ a ∧ a ≤ 64) : ∀ (j i : Nat) (m : Mem), i + j = L.length → (∀ k (h : k < i), (L.getD k RN0).var = -1 ∨ 0 ≤ (L.getD k RN0).var) →
    ∃ m', L65_2 (IA za oa ar) (RL zl ol L) (RL zl ol L) (.int .i64 L.length) (.int .i64 i) m (K65_2 (finK cfg.P f65.results.toList)) = some (.bool (okF ar L j i), m')
  | 0, i, m, h, _ => by
    refine ⟨m, ?_⟩
    rw [L65_2_eq, binA_lss, Option.bind_some, ifA_dec, if_neg (by omega), K65_2_x0, len_RL, Option.bind_some, binA_gtr, Option.bind_some, okF]
    congr 3
    exact decide_eq_decide.2 (by omega)
  | j + 1, i, m, h, hprev => by
    have hi : i < L.length := by omega
    have hg : L.getD i RN0 = L[i] := by rw [List.getD_eq_getElem?_getD, List.getElem?_eq_getElem hi, Option.getD_some]
    have hix := idx_RL (z := zl) (o := ol) hi
    have sn : storeA (some 3) (m ++ [some (Ent.obj true [.int .i64 0, .lst none true .full [], .int .i64 0])]) (.ptr m.length 0) (.agg [.int .i64 L[i].var, IA L[i].z L[i].o L[i].kids, .int .i64 L[i].leaf]) = some (m ++ [some (Ent.obj true [.int .i64 L[i].var, IA L[i].z L[i].o L[i].kids, .int .i64 L[i].leaf])]) := st_new3' rfl
    have gq : Mem.get (m ++ [some (Ent.obj true [.int .i64 L[i].var, IA L[i].z L[i].o L[i].kids, .int .i64 L[i].leaf])]) m.length = some (Ent.obj true [.int .i64 L[i].var, IA L[i].z L[i].o L[i].kids, .int .i64 L[i].leaf]) := g_eq rfl
    generalize hm4 : m ++ [some (Ent.obj true [.int .i64 L[i].var, IA L[i].z L[i].o L[i].kids, .int .i64 L[i].leaf])] = m4 at sn gq
    have ld0 : loadA none m4 (.ptr m.length (0 + 0)) = some (.int .i64 L[i].var) := by rw [ld_ptr, gq]; rfl
    have ld1 : loadA none m4 (.ptr m.length (0 + 1)) = some (IA L[i].z L[i].o L[i].kids) := by rw [ld_ptr, gq]; rfl
    have ld2 : loadA none m4 (.ptr m.length (0 + 2)) = some (.int .i64 L[i].leaf) := by rw [ld_ptr, gq]; rfl
    have e0 : ∃ r, L65_2 (IA za oa ar) (RL zl ol L) (RL zl ol L) (.int .i64 L.length) (.int .i64 i) m (K65_2 (finK cfg.P f65.results.toList)) = r := ⟨_, rfl⟩
    obtain ⟨r0, e0⟩ := e0
    have e1 := e0
    rw [L65_2_eq, binA_lss, Option.bind_some, ifA_dec, if_pos (by omega), hix, Option.bind_some, ld_v3, Option.bind_some, new_n, new_n] at e1
    dsimp only at e1
    rw [sn, Option.bind_some, fa_ptr, Option.bind_some, ld0, Option.bind_some, binA_eql, Option.bind_some, ifA_dec] at e1
    rw [e0, okF, hg, okN]
    have bad : ∀ (b : Bool), okN ar L i L[i] = false → r0 = some (.bool false, m4) → ∃ m', r0 = some (.bool (okN ar L i L[i] && b), m') := fun b h1 h2 => ⟨m4, by rw [h2, h1, Bool.false_and]⟩
    have good : okN ar L i L[i] = true → r0 = L65_2 (IA za oa ar) (RL zl ol L) (RL zl ol L) (.int .i64 L.length) (.int .i64 (i + 1 : Nat)) m4 (K65_2 (finK cfg.P f65.results.toList)) → ∃ m', r0 = some (.bool (okN ar L i L[i] && okF ar L j (i + 1)), m') := fun h1 h2 => by
      obtain ⟨m', e⟩ := W65 (za := za) (zl := zl) (z := z) (oa := oa) (ol := ol) (o := o) (ar := ar) hl hx j (i + 1) m4 (by omega) fun k hk => by
        by_cases hki : k < i
        · exact hprev k hki
        · obtain rfl : k = i := by omega
          rw [hg]
          exact okN_var h1
      exact ⟨m', by rw [h2, e, h1, Bool.true_and]⟩
    rw [← okN]
    by_cases hv : L[i].var = -1
    · rw [if_pos hv, fa_ptr, Option.bind_some, ld1, Option.bind_some, len_IA, Option.bind_some, binA_gtr, Option.bind_some, ifA_dec] at e1
      have hon : okN ar L i L[i] = decide (L[i].kids = [] ∧ 0 ≤ L[i].leaf ∧ L[i].leaf ≤ 2147483647) := by unfold okN; rw [if_pos hv]
      by_cases hk : L[i].kids = []
      · rw [if_neg (by rw [hk]; simp), fa_ptr, Option.bind_some, ld2, Option.bind_some, pc51, Option.bind_some, un_not, Option.bind_some] at e1
        by_cases h1 : 0 ≤ L[i].leaf ∧ L[i].leaf ≤ 2147483647
        · rw [decide_eq_true h1, Bool.not_true, ifA_f, i_add1 (by omega), Option.bind_some] at e1
          exact good (by rw [hon]; exact decide_eq_true ⟨hk, h1⟩) e1.symm
        · rw [decide_eq_false h1, Bool.not_false, ifA_t, K65_2_ret] at e1
          exact bad _ (by rw [hon]; exact decide_eq_false (fun h => h1 h.2)) e1.symm
      · have hkl : L[i].kids.length ≠ 0 := fun e => hk (List.eq_nil_of_length_eq_zero e)
        rw [if_pos (by omega), K65_2_ret] at e1
        exact bad _ (by rw [hon]; exact decide_eq_false (fun h => hk h.1)) e1.symm
    · have hon : okN ar L i L[i] = (decide (0 ≤ L[i].var ∧ L[i].var < ar.length ∧ L[i].leaf = 0 ∧ (L[i].kids.length : Int) = ar.getD L[i].var.toNat 0) && L[i].kids.all (kidB L i L[i].var)) := by unfold okN; rw [if_neg hv]
      rw [if_neg hv, Option.bind_some, ld0, Option.bind_some, binA_lss, Option.bind_some, ifA_dec] at e1
      by_cases h1 : L[i].var < 0
      · rw [if_pos h1, K65_2_ret] at e1
        exact bad _ (by rw [hon, decide_eq_false (by omega), Bool.false_and]) e1.symm
      · rw [if_neg h1, Option.bind_some, ld0, Option.bind_some, len_IA, Option.bind_some, binA_geq, Option.bind_some, ifA_dec] at e1
        by_cases h2 : L[i].var ≥ ar.length
        · rw [if_pos h2, K65_2_ret] at e1
          exact bad _ (by rw [hon, decide_eq_false (by omega), Bool.false_and]) e1.symm
        · rw [if_neg h2, fa_ptr, Option.bind_some, ld2, Option.bind_some, binA_neq, Option.bind_some, ifA_dec] at e1
          by_cases h3 : L[i].leaf = 0
          · obtain ⟨v, hve⟩ := Int.eq_ofNat_of_zero_le (by omega : 0 ≤ L[i].var)
            have hvl : v < ar.length := by omega
            have hav : ar.getD v 0 = ar[v] := by rw [List.getD_eq_getElem?_getD, List.getElem?_eq_getElem hvl, Option.getD_some]
            have hiv : indexAddrA none (IA za oa ar) (.int .i64 L[i].var) = some (.vptr [.int .i64 ar[v]]) := by rw [hve]; exact idx_IA hvl
            rw [if_neg (by simpa using h3), fa_ptr, Option.bind_some, ld1, Option.bind_some, len_IA, Option.bind_some, Option.bind_some, ld0, Option.bind_some, hiv, Option.bind_some, loadA_one, Option.bind_some, binA_neq, Option.bind_some, ifA_dec] at e1
            by_cases h4 : (L[i].kids.length : Int) = ar[v]
            · have hd : decide (0 ≤ L[i].var ∧ L[i].var < ar.length ∧ L[i].leaf = 0 ∧ (L[i].kids.length : Int) = ar.getD L[i].var.toNat 0) = true := decide_eq_true ⟨by omega, by omega, h3, by rw [hve, Int.toNat_natCast, hav]; exact h4⟩
              rw [if_neg (by simpa using h4), Option.bind_some, ld1, Option.bind_some, len_IA, Option.bind_some] at e1
              have hxl : L[i].kids.length ≤ 100000 := by have := hx _ (List.getElem_mem hvl); omega
              have w := W65k (za := za) (zl := zl) (z := L[i].z) (zr := z) (oa := oa) (ol := ol) (o := L[i].o) (orr := o) (ar := ar) hi hl hxl gq hprev (RL zl ol L) (.int .i64 L.length) (.int .i64 i) L[i].kids.length 0 (by omega)
              have w : L65_10 (IA za oa ar) (RL zl ol L) (.int .i64 i) (.ptr m.length 0) (RL zl ol L) (.int .i64 L.length) (.int .i64 i) (IA L[i].z L[i].o L[i].kids) (.int .i64 L[i].kids.length) (.int .i64 0) m4 (K65_10 (K65_2 (finK cfg.P f65.results.toList))) = _ := w
              rw [w, List.drop_zero] at e1
              by_cases h5 : L[i].kids.all (kidB L i L[i].var) = true
              · rw [if_pos h5, K65_10_x2, i_add1 (by omega), Option.bind_some] at e1
                exact good (by rw [hon, hd, h5]; rfl) e1.symm
              · rw [if_neg h5] at e1
                exact bad _ (by rw [hon]; simp only [Bool.not_eq_true] at h5; rw [h5, Bool.and_false]) e1.symm
            · rw [if_pos (by simpa using h4), K65_2_ret] at e1
              exact bad _ (by rw [hon, decide_eq_false (fun h => h4 (by have := h.2.2.2; rw [hve, Int.toNat_natCast, hav] at this; exact this)), Bool.false_and]) e1.symm
          · rw [if_pos (by simpa using h3), K65_2_ret] at e1
            exact bad _ (by rw [hon, decide_eq_false (fun h => h3 h.2.2.1), Bool.false_and]) e1.symm
theorem V65 (za zl : Bool) (oa ol : Own) (ar : List Int) (L : List RN) (hl : L.length ≤ 100000) (hx : ∀ a ∈ ar, 1 ≤ a ∧ a ≤ 64) : AP cfg 65 [IA za oa ar, RL zl ol L] = some (.bool (okF ar L L.length 0)) := by
  obtain ⟨m', e⟩ := W65 (za := za) (zl := zl) (z := za) (oa := oa) (ol := ol) (o := oa) (ar := ar) hl hx L.length 0 [] (by omega) (fun k h => by omega)
  refine AP_of (m := m') (v := .bool (okF ar L L.length 0)) (l := []) ?_ rfl rfl
  rw [T65, len_RL, Option.bind_some]
  exact e
theorem pc65 (za zl : Bool) (oa ol : Own) (ar : List Int) (L : List RN) (hl : L.length ≤ 100000) (hx : ∀ a ∈ ar, 1 ≤ a ∧ a ≤ 64) (d : Option Nat) (m : Mem) : pcall (AP cfg) d m 65 [IA za oa ar, RL zl ol L] = some (.bool (okF ar L L.length 0), m) := by
  rw [pcall2 (fz_IA za oa ar) (fz_RL zl ol L), V65 _ _ _ _ ar L hl hx]; rfl
end Go.Ab

/- What the interpreter does, function by function. -/
set_option maxRecDepth 100000
set_option linter.unusedVariables false
namespace Go.Ab
open Go.Proofs.Tryd
/-! ### sortilege/sortilegelaw23.DiagramApplies -/
/-! ### sortilege/sortilegelaw23.DiagramApplies$1 -/
end Go.Ab

/- Apply, by value. -/
set_option linter.unusedVariables false
set_option linter.unusedSimpArgs false
set_option linter.unusedSectionVars false
set_option maxRecDepth 100000
namespace Go.Ab
open Go.Proofs Go.Proofs.Tryd

/-- The law's own function of two leaf numbers. -/
def doF (fl : List Int) (x y : Int) : Int := if fl = [] then (if y < x then y else x) else ((fl.getD ((5 * x + y).toNat % fl.length) 0).tmod 4 + 4).tmod 4
/-! ### kid -/
def abvD (ar : List Int) (l : List ND) (id : Nat) : Int := abv ar.length (l.getD id ⟨0, [], 0⟩)
theorem getD_app {l r : List ND} {id : Nat} (h : id < l.length) : (l ++ r).getD id ⟨0, [], 0⟩ = l.getD id ⟨0, [], 0⟩ := by
  rw [List.getD_eq_getElem?_getD, List.getElem?_append_left h, ← List.getD_eq_getElem?_getD]
theorem abvD_app {ar : List Int} {l r : List ND} {id : Nat} (h : id < l.length) : abvD ar (l ++ r) id = abvD ar l id := by unfold abvD; rw [getD_app h]
theorem abvD_at {ar : List Int} {l : List ND} {id : Nat} (h : id < l.length) : abvD ar l id = abv ar.length l[id] := by unfold abvD; rw [getD_at h]
/-! ### What was found is kept -/
end Go.Ab

/- What loading a list of nodes leaves. Plain Lean. -/
set_option linter.unusedVariables false
set_option linter.unusedSimpArgs false
namespace Go.Ab

/-- The leaf number that an assignment reaches from a node of a list. -/
def evR (L : List RN) (y : Nat → Nat) : Nat → Nat → Int
  | 0, _ => 0
  | n + 1, i => if (L.getD i RN0).var = -1 then (L.getD i RN0).leaf else evR L y n ((L.getD i RN0).kids.getD (y (L.getD i RN0).var.toNat) 0).toNat
def EV (L : List RN) (y : Nat → Nat) (i : Nat) : Int := evR L y (i + 1) i
/-- A valid list. -/
def RV (ar : List Int) (L : List RN) : Prop := ∀ i, i < L.length → okN ar L i (L.getD i RN0) = true
theorem okF_RV {ar : List Int} {L : List RN} : ∀ (j i : Nat), i + j = L.length → okF ar L j i = true → 0 < L.length ∧ ∀ k, i ≤ k → k < L.length → okN ar L k (L.getD k RN0) = true
  | 0, i, h, ho => ⟨by simpa [okF] using ho, fun k h1 h2 => by omega⟩
  | j + 1, i, h, ho => by
    rw [okF, Bool.and_eq_true] at ho
    obtain ⟨h1, h2⟩ := okF_RV j (i + 1) (by omega) ho.2
    refine ⟨h1, fun k hk1 hk2 => ?_⟩
    by_cases hki : k = i
    · rw [hki]; exact ho.1
    · exact h2 k (by omega) hk2
section
variable {ar : List Int} {L : List RN}
theorem rv_leaf (h : RV ar L) {i : Nat} (hi : i < L.length) (hv : (L.getD i RN0).var = -1) : (L.getD i RN0).kids = [] ∧ 0 ≤ (L.getD i RN0).leaf ∧ (L.getD i RN0).leaf ≤ 2147483647 := by
  have := h i hi
  unfold okN at this
  rw [if_pos hv] at this
  simpa using this
theorem rv_node (h : RV ar L) {i : Nat} (hi : i < L.length) (hv : (L.getD i RN0).var ≠ -1) : ∃ v : Nat, (L.getD i RN0).var = v ∧ v < ar.length ∧ ((L.getD i RN0).kids.length : Int) = ar.getD v 0 ∧ ∀ k ∈ (L.getD i RN0).kids, ∃ t : Nat, k = t ∧ t < i ∧ ((L.getD t RN0).var = -1 ∨ (v : Int) < (L.getD t RN0).var) := by
  have := h i hi
  unfold okN at this
  rw [if_neg hv] at this
  simp only [Bool.and_eq_true, decide_eq_true_eq, List.all_eq_true] at this
  obtain ⟨⟨h1, h2, h3, h4⟩, h5⟩ := this
  obtain ⟨v, hve⟩ := Int.eq_ofNat_of_zero_le h1
  rw [hve, Int.toNat_natCast] at h4
  refine ⟨v, hve, by omega, h4, fun k hk => ?_⟩
  have := h5 k hk
  unfold kidB at this
  simp only [Bool.and_eq_true, decide_eq_true_eq] at this
  obtain ⟨t, rfl⟩ := Int.eq_ofNat_of_zero_le this.1.1
  rw [Int.toNat_natCast, hve] at this
  exact ⟨t, rfl, by omega, this.2⟩
theorem rv_kid (h : RV ar L) {i : Nat} (hi : i < L.length) (hv : (L.getD i RN0).var ≠ -1) {y : Nat → Nat} (hy : Asg ar y) : ∃ v t : Nat, (L.getD i RN0).var = v ∧ v < ar.length ∧ (L.getD i RN0).kids.getD (y v) 0 = t ∧ t < i ∧ y v < (L.getD i RN0).kids.length := by
  obtain ⟨v, hve, hvl, hl, hk⟩ := rv_node h hi hv
  have hyv := hy v hvl
  have hlt : y v < (L.getD i RN0).kids.length := by omega
  obtain ⟨t, e, ht, _⟩ := hk _ (List.getElem_mem hlt)
  exact ⟨v, t, hve, hvl, by rw [List.getD_eq_getElem?_getD, List.getElem?_eq_getElem hlt, Option.getD_some, e], ht, hlt⟩
theorem evR_fuel (h : RV ar L) {y : Nat → Nat} (hy : Asg ar y) : ∀ (n i m : Nat), i < L.length → i < n → i < m → evR L y n i = evR L y m i
  | 0, i, m, _, h, _ => by omega
  | n + 1, i, 0, _, _, h => by omega
  | n + 1, i, m + 1, hi, _, _ => by
    rw [evR, evR]
    by_cases hv : (L.getD i RN0).var = -1
    · rw [if_pos hv, if_pos hv]
    · rw [if_neg hv, if_neg hv]
      obtain ⟨v, t, hve, hvl, e, ht, _⟩ := rv_kid h hi hv hy
      rw [hve, Int.toNat_natCast, e, Int.toNat_natCast]
      exact evR_fuel h hy n t m (by omega) (by omega) (by omega)
theorem EV_leaf {y : Nat → Nat} {i : Nat} (hv : (L.getD i RN0).var = -1) : EV L y i = (L.getD i RN0).leaf := by
  unfold EV
  rw [evR, if_pos hv]
theorem EV_node (h : RV ar L) {y : Nat → Nat} (hy : Asg ar y) {i : Nat} (hi : i < L.length) {v : Nat} (hv : (L.getD i RN0).var = v) : EV L y i = EV L y ((L.getD i RN0).kids.getD (y v) 0).toNat := by
  have hne : (L.getD i RN0).var ≠ -1 := by omega
  obtain ⟨v', t, hve, hvl, e, ht, _⟩ := rv_kid h hi hne hy
  have : v' = v := by omega
  subst this
  unfold EV
  rw [evR, if_neg hne, hve, Int.toNat_natCast, e, Int.toNat_natCast]
  exact evR_fuel h hy i t (t + 1) (by omega) ht (by omega)
/-- One node is loaded. -/
def stepL (p : List ND × List Nat) (x : RN) : List ND × List Nat :=
  if x.var < 0 then (ins p.1 (leafN x.leaf), p.2 ++ [p.1.idxOf (leafN x.leaf)])
  else ((nodeR p.1 x.var ((x.kids.map fun k => p.2.getD k.toNat 0).map Int.ofNat)).2, p.2 ++ [(nodeR p.1 x.var ((x.kids.map fun k => p.2.getD k.toNat 0).map Int.ofNat)).1.toNat])
def loadF (L : List RN) (l : List ND) (i : Nat) : List ND × List Nat := (L.take i).foldl stepL (l, [])
theorem loadF_succ {l : List ND} {i : Nat} (hi : i < L.length) : loadF L l (i + 1) = stepL (loadF L l i) (L.getD i RN0) := by
  unfold loadF
  rw [List.take_succ_eq_append_getElem hi, List.foldl_append, List.getD_eq_getElem?_getD, List.getElem?_eq_getElem hi]
  rfl
def posn (a : Nat) (x : RN) : Int := if x.var = -1 then a else x.var
structure LI (ar : List Int) (L : List RN) (l0 : List ND) (i : Nat) (l : List ND) (ids : List Nat) : Prop where
  g : GoodL ar l
  len : ids.length = i
  gr : ∃ r, l = l0 ++ r ∧ r.length ≤ i
  at_ : ∀ k, k < i → ids.getD k 0 < l.length ∧ posn ar.length (L.getD k RN0) ≤ abvD ar l (ids.getD k 0) ∧ ∀ y, Asg ar y → S l y (ids.getD k 0) = EV L y k
theorem load_node (h : RV ar L) (h1 : ∀ x ∈ ar, 1 ≤ x ∧ x ≤ 64) (hal : ar.length ≤ 16) {l0 l : List ND} {ids : List Nat} {i : Nat} (hi : i < L.length) (I : LI ar L l0 i l ids) (hl : l.length ≤ 100000) (hv : ¬ (L.getD i RN0).var < 0) :
    ∃ r id, nodeR l (L.getD i RN0).var (((L.getD i RN0).kids.map fun k => ids.getD k.toNat 0).map Int.ofNat) = (((id : Nat) : Int), l ++ r) ∧ LI ar L l0 (i + 1) (l ++ r) (ids ++ [id]) ∧ (nodeN (L.getD i RN0).var (((L.getD i RN0).kids.map fun k => ids.getD k.toNat 0).map Int.ofNat)).ok ∧ (L.getD i RN0).kids ≠ [] := by
  obtain ⟨v, hve, hvl, hkl, hk⟩ := rv_node h hi (by omega)
  have hab := h1 _ (List.getElem_mem hvl)
  have hget : ar.getD v 0 = ar[v] := by rw [List.getD_eq_getElem?_getD, List.getElem?_eq_getElem hvl, Option.getD_some]
  have hks : ∀ k ∈ (L.getD i RN0).kids, ∃ hh : ids.getD k.toNat 0 < l.length, (v : Int) < abv ar.length l[ids.getD k.toNat 0] := fun k hk' => by
    obtain ⟨t, rfl, ht, hp⟩ := hk k hk'
    rw [Int.toNat_natCast]
    obtain ⟨a1, a2, _⟩ := I.at_ t ht
    rw [abvD_at a1] at a2
    refine ⟨a1, ?_⟩
    unfold posn at a2
    split at a2
    · omega
    · rcases hp with hp | hp
      · rename_i hne; exact absurd hp hne
      · omega
  obtain ⟨r, id, e, hr, hr2, g2, hid, htop, hS⟩ := nodeR_facts I.g h1 hal hvl (ks := (L.getD i RN0).kids.map fun k => ids.getD k.toNat 0) (by rw [List.length_map]; exact hkl) (fun q hq => by
    obtain ⟨k, hk', rfl⟩ := List.mem_map.1 hq
    exact hks k hk') hl
  have hkne : (L.getD i RN0).kids ≠ [] := fun hh => by
    have h0 : (L.getD i RN0).kids.length = 0 := by rw [hh]; rfl
    omega
  rw [hve]
  refine ⟨r, id, e, ⟨g2, by simp [I.len], ?_, fun k hk' => ?_⟩, ?_, hkne⟩
  · obtain ⟨r0, e0, hr0⟩ := I.gr
    exact ⟨r0 ++ r, by rw [e0, List.append_assoc], by rw [List.length_append]; omega⟩
  · by_cases hki : k < i
    · obtain ⟨a1, a2, a3⟩ := I.at_ k hki
      have e1 : (ids ++ [id]).getD k 0 = ids.getD k 0 := by
        rw [List.getD_eq_getElem?_getD, List.getElem?_append_left (by rw [I.len]; exact hki), ← List.getD_eq_getElem?_getD]
      rw [e1]
      refine ⟨by rw [List.length_append]; omega, by rw [abvD_app a1]; exact a2, fun y hy => by rw [S_app I.g r hy _ a1]; exact a3 y hy⟩
    · have : k = i := by omega
      subst this
      have e1 : (ids ++ [id]).getD k 0 = id := by
        rw [List.getD_eq_getElem?_getD, List.getElem?_append_right (by rw [I.len]; exact Nat.le_refl _), I.len]; simp
      rw [e1]
      refine ⟨hid, ?_, fun y hy => ?_⟩
      · rw [abvD_at hid]
        unfold posn
        rw [if_neg (by omega), hve]
        exact htop
      · have hyv := hy v hvl
        have hlt : y v < (L.getD k RN0).kids.length := by omega
        obtain ⟨t, et, ht, _⟩ := hk _ (List.getElem_mem hlt)
        have e2 : (L.getD k RN0).kids.getD (y v) 0 = (t : Int) := by rw [List.getD_eq_getElem?_getD, List.getElem?_eq_getElem hlt, Option.getD_some, et]
        rw [hS y hy, EV_node h hy hi hve, e2, Int.toNat_natCast, List.getD_eq_getElem?_getD, List.getElem?_map, List.getElem?_eq_getElem hlt]
        simp only [Option.map_some, Option.getD_some, et, Int.toNat_natCast]
        exact (I.at_ t ht).2.2 y hy
  · refine .inr ⟨by simp only [nodeN]; omega, by simp only [nodeN]; omega, rfl, fun q hq => ?_, by simp only [nodeN, List.length_map]; omega⟩
    obtain ⟨a, ha, rfl⟩ := List.mem_map.1 hq
    obtain ⟨k, hk', rfl⟩ := List.mem_map.1 ha
    obtain ⟨q1, _⟩ := hks k hk'
    refine ⟨Int.natCast_nonneg _, ?_⟩
    show ((ids.getD k.toNat 0 : Nat) : Int) < 1000000
    omega
theorem load_leaf (h : RV ar L) {l0 l : List ND} {ids : List Nat} {i : Nat} (hi : i < L.length) (I : LI ar L l0 i l ids) (hv : (L.getD i RN0).var < 0) :
    ∃ r, ins l (leafN (L.getD i RN0).leaf) = l ++ r ∧ LI ar L l0 (i + 1) (l ++ r) (ids ++ [l.idxOf (leafN (L.getD i RN0).leaf)]) ∧ 0 ≤ (L.getD i RN0).leaf ∧ (L.getD i RN0).leaf ≤ 2147483647 := by
  have hv1 : (L.getD i RN0).var = -1 := by
    rcases okN_var (h i hi) with h | h <;> omega
  obtain ⟨_, b1, b2⟩ := rv_leaf h hi hv1
  obtain ⟨r, e, hr, g2, tv⟩ := leaf_facts I.g (x := (L.getD i RN0).leaf) ⟨b1, b2⟩
  refine ⟨r, e, ⟨g2, by simp [I.len], ?_, fun k hk' => ?_⟩, b1, b2⟩
  · obtain ⟨r0, e0, hr0⟩ := I.gr
    exact ⟨r0 ++ r, by rw [e0, List.append_assoc], by rw [List.length_append]; omega⟩
  · by_cases hki : k < i
    · obtain ⟨a1, a2, a3⟩ := I.at_ k hki
      have e1 : (ids ++ [l.idxOf (leafN (L.getD i RN0).leaf)]).getD k 0 = ids.getD k 0 := by
        rw [List.getD_eq_getElem?_getD, List.getElem?_append_left (by rw [I.len]; exact hki), ← List.getD_eq_getElem?_getD]
      rw [e1]
      refine ⟨by rw [List.length_append]; omega, by rw [abvD_app a1]; exact a2, fun y hy => by rw [S_app I.g r hy _ a1]; exact a3 y hy⟩
    · have : k = i := by omega
      subst this
      have e1 : (ids ++ [l.idxOf (leafN (L.getD k RN0).leaf)]).getD k 0 = l.idxOf (leafN (L.getD k RN0).leaf) := by
        rw [List.getD_eq_getElem?_getD, List.getElem?_append_right (by rw [I.len]; exact Nat.le_refl _), I.len]; simp
      rw [e1]
      refine ⟨tv.lt, ?_, fun y hy => ?_⟩
      · rw [abvD_at tv.lt]
        unfold posn
        rw [if_pos hv1]
        exact tv.top tv.lt
      · rw [tv.val y hy, EV_leaf hv1, List.drop_length]; rfl
/-- The fold, step by step. -/
theorem load_inv (h : RV ar L) (h1 : ∀ x ∈ ar, 1 ≤ x ∧ x ≤ 64) (hal : ar.length ≤ 16) {l0 : List ND} (g : GoodL ar l0) (hl : l0.length + L.length ≤ 4000) : ∀ i, i ≤ L.length → LI ar L l0 i (loadF L l0 i).1 (loadF L l0 i).2
  | 0, _ => ⟨g, rfl, ⟨[], by simp [loadF], by simp⟩, fun k hk => by omega⟩
  | i + 1, hi => by
    have I := load_inv h h1 hal g hl i (by omega)
    obtain ⟨r0, e0, hr0⟩ := I.gr
    have hll : (loadF L l0 i).1.length ≤ 100000 := by rw [e0, List.length_append]; omega
    rw [loadF_succ (by omega)]
    unfold stepL
    by_cases hv : (L.getD i RN0).var < 0
    · rw [if_pos hv]
      obtain ⟨r, e, J, _⟩ := load_leaf h (by omega) I hv
      rw [e]
      exact J
    · rw [if_neg hv]
      obtain ⟨r, id, e, J, _⟩ := load_node h h1 hal (by omega) I hll hv
      rw [e]
      exact J
end
end Go.Ab

/- Apply, by value: both. -/
set_option linter.unusedVariables false
set_option linter.unusedSimpArgs false
set_option linter.unusedSectionVars false
set_option maxRecDepth 100000
namespace Go.Ab
open Go.Proofs Go.Proofs.Tryd

/-- The leaf numbers that a node reaches. -/
def Rng (ar : List Int) (l : List ND) (a : Nat) : Prop := ∀ y, Asg ar y → 0 ≤ S l y a ∧ S l y a ≤ 4
structure EOk (ar : List Int) (fl : List Int) (l : List ND) (e : (Nat × Nat) × Nat) : Prop where
  a : e.1.1 < l.length
  b : e.1.2 < l.length
  r : e.2 < l.length
  top : ∀ w : Int, w ≤ abvD ar l e.1.1 → w ≤ abvD ar l e.1.2 → w ≤ abvD ar l e.2
  val : ∀ y, Asg ar y → S l y e.2 = doF fl (S l y e.1.1) (S l y e.1.2)
theorem EOk.app {ar fl : List Int} {l : List ND} (g : GoodL ar l) {e : (Nat × Nat) × Nat} (h : EOk ar fl l e) (r : List ND) : EOk ar fl (l ++ r) e :=
  ⟨by have := h.a; simp; omega, by have := h.b; simp; omega, by have := h.r; simp; omega, fun w h1 h2 => by
    rw [abvD_app h.a] at h1; rw [abvD_app h.b] at h2; rw [abvD_app h.r]; exact h.top w h1 h2, fun y hy => by
    rw [S_app g r hy _ h.a, S_app g r hy _ h.b, S_app g r hy _ h.r]; exact h.val y hy⟩
theorem Rng.app {ar : List Int} {l : List ND} (g : GoodL ar l) {a : Nat} (ha : a < l.length) (h : Rng ar l a) (r : List ND) : Rng ar (l ++ r) a := fun y hy => by
  rw [S_app g r hy _ ha]; exact h y hy
section
variable {s pm bf : Nat} {zs zf : Bool} {os oF : Own} {ar fl : List Int}
end
end Go.Ab

/- Apply, by value: both, Apply; DiagramApplies in values. -/
set_option linter.unusedVariables false
set_option linter.unusedSimpArgs false
set_option linter.unusedSectionVars false
set_option maxRecDepth 100000
namespace Go.Ab
open Go.Proofs Go.Proofs.Tryd

section
variable {m : Mem} {s : Nat} {F : List Nat} {arms : AV} {most : Int} {l : List ND}
theorem A52x {g : Nat} {caps : List AV} {Q : Int → List ND → Prop} (h : St8 m s F arms most l) (h1 : cfg.lib g = none) (h2 : cfg.inl 52 g = true) (h3 : cfg.thaw 52 g = false)
    (hc : ∀ m1, Fr m m1 [] → ∃ m' F' id l', AC cfg g caps m1 = some (.int .i64 id, m') ∧ Q id l' ∧ St8 m' s F' arms most l' ∧ Fr m1 m' F ∧ Gr m1 F F') :
    ∃ m' F' id l', AC cfg 52 [.ptr s 0, .fn g caps] m = some (.tup [.int .i64 id, .int .i64 0], m') ∧ Q id l' ∧ St8 m' s F' arms most l' ∧ Fr m m' F ∧ Gr m F F' := by
  have hlt := h.lt
  obtain ⟨p, na, T, h, rfl⟩ := h
  have hs := h.hs
  have hsl := get_lt hs
  have hlen : lenA false na = some (.int .i64 l.length) := by
    cases h.hn with
    | none => rfl
    | some t l ht => rw [lenA_lst, List.length_map]
  obtain ⟨m2, F2, id, l', e2, hQ, k1, k2, k3⟩ := hc (List.set (((m ++ [some (Ent.obj true [.ptr s 0])]) ++ [some (Ent.obj true [.int .i64 0])]) ++ [some (Ent.obj true [.int .i64 0])] ++ [some (Ent.obj true [.int .i64 0])]) (m.length + 1 + 1 + 1) (some (Ent.obj true [.int .i64 l.length]))) (((((Fr.app m _ _).snoc _).snoc _).snoc _).set _ (.inr (by omega)))
  have len2 := k2.len
  simp only [List.length_set, List.length_append, List.length_cons, List.length_nil] at len2
  have g1 : Mem.get m2 (m.length + 1) = some (Ent.obj true [.int .i64 0]) := by
    rw [k2.get _ (by simp) (fun hx => by have := hlt _ hx; omega)]; exact (by simp (disch := (first | assumption | omega | (simp only [List.length_append, List.length_set, List.length_cons, List.length_nil]; first | done | omega))) only [resv1, g_lt, g_eq, g_sne, g_seq]; first | done | rfl)
  have g2 : Mem.get m2 (m.length + 2) = some (Ent.obj true [.int .i64 0]) := by
    rw [k2.get _ (by simp) (fun hx => by have := hlt _ hx; omega)]; exact (by simp (disch := (first | assumption | omega | (simp only [List.length_append, List.length_set, List.length_cons, List.length_nil]; first | done | omega))) only [resv1, g_lt, g_eq, g_sne, g_seq]; first | done | rfl)
  have e : AC cfg 52 [.ptr s 0, .fn g caps] m = some (.tup [.int .i64 id, .int .i64 0], (m2.set (m.length + 1) (some (Ent.obj true [.int .i64 id]))).set (m.length + 1 + 1) (some (Ent.obj true [.int .i64 0]))) := by
    rw [T52]
    repeat ((with_reducible (first | apply bs | apply bsy)); (focus (first | (simp (disch := (first | assumption | omega | (simp only [List.length_append, List.length_set, List.length_cons, List.length_nil]; first | done | omega))) only [List.all_cons, List.all_nil, Bool.and_true, Bool.and_self, beq_self_eq_true, resv1, List.length_map, ld_v3, ld_v1, binA_eql, binA_neq, binA_lss, binA_leq, binA_gtr, binA_geq, loadA_one, un_not, ld_ptr, st_ptr, putE1, objE_obj, Option.bind_some, cut1, cut3, cut4, nil_ptr, fa_ptr, g_lt, g_eq, g_sne, g_seq, new_n, box_n, List.getElem?_cons_zero, List.getElem?_cons_succ, ex0, ex1, Sh.size, cells_int, aok_int, cells_bool, aok_bool, cells_str, aok_str, cells_lst, aok_lst, cells_ptr, aok_ptr, cells_arr, aok_arr, cells_fn, aok_fn, cells_mref, aok_mref, cells_nilp, aok_nilp, cells_agg, shOk_n, shOk_s, lenA_lst, List.length_cons, List.length_nil, if_true, putAt, List.take_succ_cons, List.take_zero, List.drop_succ_cons, List.drop_zero, List.cons_append, List.nil_append, List.append_nil, Nat.zero_add, Nat.reduceAdd, Nat.reduceLeDiff, Nat.le_refl, List.drop_nil, List.take_nil, List.length_append, List.length_set, hs, hlen, box_p]; first | done | rfl) | rfl)); try dsimp only)
    rw [List.nil_append, callK_in h1 h2 h3, e2, Option.bind_some]
    dsimp only
    repeat ((with_reducible (first | apply bs | apply bsy)); (focus (first | (simp (disch := (first | assumption | omega | (simp only [List.length_append, List.length_set, List.length_cons, List.length_nil]; first | done | omega))) only [List.all_cons, List.all_nil, Bool.and_true, Bool.and_self, beq_self_eq_true, resv1, List.length_map, ld_v3, ld_v1, binA_eql, binA_neq, binA_lss, binA_leq, binA_gtr, binA_geq, loadA_one, un_not, ld_ptr, st_ptr, putE1, objE_obj, Option.bind_some, cut1, cut3, cut4, nil_ptr, fa_ptr, g_lt, g_eq, g_sne, g_seq, new_n, box_n, List.getElem?_cons_zero, List.getElem?_cons_succ, ex0, ex1, Sh.size, cells_int, aok_int, cells_bool, aok_bool, cells_str, aok_str, cells_lst, aok_lst, cells_ptr, aok_ptr, cells_arr, aok_arr, cells_fn, aok_fn, cells_mref, aok_mref, cells_nilp, aok_nilp, cells_agg, shOk_n, shOk_s, lenA_lst, List.length_cons, List.length_nil, if_true, putAt, List.take_succ_cons, List.take_zero, List.drop_succ_cons, List.drop_zero, List.cons_append, List.nil_append, List.append_nil, Nat.zero_add, Nat.reduceAdd, Nat.reduceLeDiff, Nat.le_refl, List.drop_nil, List.take_nil, List.length_append, List.length_set, g1, g2]; first | done | rfl) | rfl)); try dsimp only)
  refine ⟨_, F2, id, l', e, hQ, ?_, ?_, ?_⟩
  · refine k1.move fun x hx => ?_
    have hx2 : x ≠ m.length + 1 ∧ x ≠ m.length + 1 + 1 := by
      rcases k3 x hx with h | h
      · have := hlt x h; omega
      · simp only [List.length_set, List.length_append, List.length_cons, List.length_nil] at h; omega
    rw [g_sne hx2.2, g_sne hx2.1]
  · have f1 : Fr m m2 (s :: p :: T) := Fr.trans (((((Fr.app m _ _).snoc _).snoc _).snoc _).set _ (.inr (by omega))) k2 fun x hx => .inl hx
    exact (f1.set _ (.inr (by omega))).set _ (.inr (by omega))
  · intro x hx
    rcases k3 x hx with h | h
    · exact .inl h
    · simp only [List.length_set, List.length_append, List.length_cons, List.length_nil] at h
      exact .inr (by omega)
end
section
variable {s pm bf : Nat} {zs zf : Bool} {os oF : Own} {ar fl : List Int}
theorem abv_ub {l : List ND} (g : GoodL ar l) {i : Nat} (hi : i < l.length) : 0 ≤ abvD ar l i ∧ abvD ar l i ≤ ar.length := by
  rw [abvD_at hi]
  unfold abv
  split
  · have := (g.var i hi (by omega)).1; omega
  · omega
end
end Go.Ab

/- Load, by value. -/
set_option linter.unusedVariables false
set_option linter.unusedSimpArgs false
set_option linter.unusedSectionVars false
set_option maxRecDepth 100000
namespace Go.Ab
open Go.Proofs Go.Proofs.Tryd

def csF (ids : List Nat) (n : Nat) : List Int := ids.map Int.ofNat ++ List.replicate (n - ids.length) 0
theorem csF_len {ids : List Nat} {n : Nat} (h : ids.length ≤ n) : (csF ids n).length = n := by unfold csF; simp; omega
theorem csF_set {ids : List Nat} {n : Nat} (h : ids.length < n) (id : Nat) : (csF ids n).set ids.length (id : Int) = csF (ids ++ [id]) n := by
  unfold csF
  obtain ⟨k, hk⟩ : ∃ k, n - ids.length = k + 1 := ⟨n - ids.length - 1, by omega⟩
  have e2 : n - (ids ++ [id]).length = k := by simp; omega
  rw [hk, e2, List.set_append_right _ _ (by simp), List.map_append, List.append_assoc]
  simp [List.replicate_succ]
theorem csF_get {ids : List Nat} {n t : Nat} (h : t < ids.length) : (csF ids n).getD t 0 = ((ids.getD t 0 : Nat) : Int) := by
  unfold csF
  rw [List.getD_eq_getElem?_getD, List.getElem?_append_left (by simpa using h), List.getElem?_map, List.getD_eq_getElem?_getD, List.getElem?_eq_getElem h]; rfl
theorem csF_full {ids : List Nat} : csF ids ids.length = ids.map Int.ofNat := by unfold csF; simp
theorem ld_int {m : Mem} {nm i : Nat} {ds : List Int} (h : m.get nm = some (.obj false (ds.map (AV.int .i64)))) (hi : i < ds.length) : loadA none m (.ptr nm i) = some (.int .i64 (ds.getD i 0)) := by
  rw [ld_ptr, h, objE_obj, Option.bind_some, cut1, List.getElem?_map, List.getElem?_eq_getElem hi, List.getD_eq_getElem?_getD, List.getElem?_eq_getElem hi]; rfl
theorem make_int (m : Mem) (n : Nat) (h : n ≤ 100000) : makeA none 3 none (.int .i64 0) 8 m (.int .i64 n) (.int .i64 n) = some (.arr m.length 0 n none, m ++ [some (Ent.obj false ((csF [] n).map (AV.int .i64)))]) := by
  have h3 : (n : Int) * 8 ≤ 281474976710656 := by omega
  have h4 : (n : Int) ≤ 9223372036854775807 := by omega
  have h5 : (0 : Int) ≤ n := by omega
  simp only [makeA, newAt, zeros, Int.le_refl, if_true, Int.toNat_natCast]
  rw [if_pos ⟨h5, trivial, h3, h4⟩]
  simp [csF]
theorem kill_fr (m : Mem) (k : Nat) : Fr m (kill m [k]) [k] := ⟨by rw [length_kill]; exact Nat.le_refl _, fun x _ hx => by rw [get_kill, if_neg hx]⟩
section
variable {s b1 b2 nm : Nat} {F0 : List Nat} {arms : AV} {ar : List Int} {L : List RN} {zl : Bool} {ol : Own} {l0 : List ND}
theorem W66k {kids : List Int} {ids : List Nat} {z : Bool} {o : Own} {kq n : Nat} {m1 : Mem} (hkn : kq ≠ nm) (hids : ids.length ≤ n) (hk : ∀ k ∈ kids, ∃ t : Nat, k = t ∧ t < ids.length) (hkl : kids.length ≤ 1000) (hkq : kq < m1.length) (hnm : nm < m1.length) (hg1 : m1.get nm = some (.obj false ((csF ids n).map (AV.int .i64)))) (x0 x1 x4 x5 x12 x13 x14 : AV) (K : Ex → St → Option (AV × Mem)) : ∀ (j c : Nat) (m : Mem), c + j = kids.length → Fr m1 m [kq] → m.get kq = some (.obj false ((csF ((kids.take c).map fun k => ids.getD k.toNat 0) kids.length).map (AV.int .i64))) →
    ∃ m', L66_9 x0 x1 (.arr nm 0 n none) x4 x5 (.arr kq 0 kids.length none) x12 x13 x14 (IA z o kids) (.int .i64 kids.length) (.int .i64 c) m (K66_9 K) = K66_9 K (.exit 2) (O66_9 x0 x1 (.arr nm 0 n none) x4 x5 (.arr kq 0 kids.length none) x12 x13 x14 m') ∧ Fr m1 m' [kq] ∧ m'.get kq = some (.obj false (((kids.map fun k => ids.getD k.toNat 0).map Int.ofNat).map (AV.int .i64))) := by
  intro j
  induction j with
  | zero =>
    intro c m hc f hg
    refine ⟨m, ?_, f, ?_⟩
    · rw [L66_9_eq, binA_lss, Option.bind_some, ifA_dec, if_neg (by omega)]
    · rw [hg, List.take_of_length_le (by omega)]
      have : kids.length = (kids.map fun k => ids.getD k.toNat 0).length := by rw [List.length_map]
      rw [this, csF_full]
  | succ j ih =>
    intro c m hc f hg
    have hcl : c < kids.length := by omega
    obtain ⟨t, et, ht⟩ := hk _ (List.getElem_mem hcl)
    have hgn : m.get nm = some (.obj false ((csF ids n).map (AV.int .i64))) := (f.get nm hnm (by simpa using fun e => hkn e.symm)).trans hg1
    have hkml := get_lt hg
    have ld := ld_int hgn (i := t) (by rw [csF_len hids]; omega)
    rw [csF_get ht] at ld
    have htl : ((kids.take c).map fun k => ids.getD k.toNat 0).length = c := by rw [List.length_map, List.length_take]; omega
    have st := st_int (y := ((ids.getD t 0 : Nat) : Int)) hg (i := c) (by rw [csF_len (by omega)]; omega)
    have e1 : (csF ((kids.take c).map fun k => ids.getD k.toNat 0) kids.length).set c ((ids.getD t 0 : Nat) : Int) = csF ((kids.take (c + 1)).map fun k => ids.getD k.toNat 0) kids.length := by
      have := csF_set (ids := (kids.take c).map fun k => ids.getD k.toNat 0) (n := kids.length) (by omega) (ids.getD t 0)
      rw [htl] at this
      rw [this, List.take_succ_eq_append_getElem hcl, List.map_append, et]; rfl
    rw [e1] at st
    obtain ⟨m', e, k⟩ := ih (c + 1) _ (by omega) (f.set _ (.inl (by simp))) (g_seq rfl hkml)
    refine ⟨m', ?_, k⟩
    rw [L66_9_eq, binA_lss, Option.bind_some, ifA_dec, if_pos (by omega), idx_IA hcl, Option.bind_some, loadA_one, Option.bind_some, et, index_arr (by omega), Option.bind_some, ld, Option.bind_some, index_arr hcl, Option.bind_some, st, Option.bind_some, i_add1 (by omega), Option.bind_some]
    exact e
theorem W66 (h : RV ar L) (h1 : ∀ x ∈ ar, 1 ≤ x ∧ x ≤ 64) (hal : ar.length ≤ 16) (g0 : GoodL ar l0) (hl : l0.length + L.length < 4000) (hL : 0 < L.length) {m0 : Mem} (hnm : m0.length ≤ nm) (hb1 : b1 < m0.length) (hb2 : b2 < m0.length) (hF01 : b1 ∉ F0) (hF02 : b2 ∉ F0) (hF0 : ∀ y ∈ F0, y < m0.length) (hg1 : m0.get b1 = some (.obj true [RL zl ol L])) (hg2 : m0.get b2 = some (.obj true [.ptr s 0])) :
    ∀ (j i : Nat) (m : Mem) (F : List Nat), i + j = L.length → St8 m s F arms 4000 (loadF L l0 i).1 → m.get nm = some (.obj false ((csF (loadF L l0 i).2 L.length).map (AV.int .i64))) → nm ∉ F → Fr m0 m F0 → Gr m0 F0 F →
      ∃ m' F', L66_3 (.ptr b1 0) (.ptr b2 0) (.arr nm 0 L.length none) (RL zl ol L) (.int .i64 L.length) (.int .i64 i) m (K66_3 (finK cfg.P f66.results.toList)) = some (.int .i64 ((loadF L l0 L.length).2.getD (L.length - 1) 0 : Nat), m') ∧ St8 m' s F' arms 4000 (loadF L l0 L.length).1 ∧ Fr m0 m' F0 ∧ Gr m0 F0 F' := by
  intro j
  induction j with
  | zero =>
    intro i m F hi st hg hnF f gr
    obtain rfl : i = L.length := by omega
    have I := load_inv h h1 hal g0 (by omega) L.length (Nat.le_refl _)
    refine ⟨m, F, ?_, st, f, gr⟩
    have gb1 : m.get b1 = some (.obj true [RL zl ol L]) := (f.get b1 hb1 hF01).trans hg1
    have hlt := I.len
    have ld := ld_int hg (i := L.length - 1) (by rw [csF_len (by omega)]; omega)
    rw [csF_get (by omega)] at ld
    rw [L66_3_eq, binA_lss, Option.bind_some, ifA_dec, if_neg (by omega), K66_3_x0, ld_box gb1, Option.bind_some, len_RL, Option.bind_some, i_sub1 (by omega) (by omega), Option.bind_some, index_arr (by omega), Option.bind_some, ld, Option.bind_some]
  | succ j ih =>
    intro i m F hi st hg hnF f gr
    have hil : i < L.length := by omega
    have I := load_inv h h1 hal g0 (by omega) i (by omega)
    have I2 := load_inv h h1 hal g0 (by omega) (i + 1) (by omega)
    have es := loadF_succ (l := l0) hil
    obtain ⟨r0, e0, hr0⟩ := I.gr
    have hll : (loadF L l0 i).1.length ≤ l0.length + i := by rw [e0, List.length_append]; omega
    have hidl := I.len
    generalize loadF L l0 i = p at *
    obtain ⟨l, ids⟩ := p
    simp only at st hg I e0 hll hidl
    have hgd : L.getD i RN0 = L[i] := by rw [List.getD_eq_getElem?_getD, List.getElem?_eq_getElem hil, Option.getD_some]
    have hix := idx_RL (z := zl) (o := ol) hil
    have hnml := get_lt hg
    have bNotF : ∀ b, b < m0.length → b ∉ F0 → b ∉ F := fun b hb hbF hh => by
      rcases gr b hh with h4 | h4
      · exact hbF h4
      · omega
    have sn : storeA (some 3) (m ++ [some (Ent.obj true [.int .i64 0, .lst none true .full [], .int .i64 0])]) (.ptr m.length 0) (.agg [.int .i64 L[i].var, IA L[i].z L[i].o L[i].kids, .int .i64 L[i].leaf]) = some (m ++ [some (Ent.obj true [.int .i64 L[i].var, IA L[i].z L[i].o L[i].kids, .int .i64 L[i].leaf])]) := st_new3' rfl
    have f4 : Fr m (m ++ [some (Ent.obj true [.int .i64 L[i].var, IA L[i].z L[i].o L[i].kids, .int .i64 L[i].leaf])]) [] := Fr.app m _ _
    have gq : Mem.get (m ++ [some (Ent.obj true [.int .i64 L[i].var, IA L[i].z L[i].o L[i].kids, .int .i64 L[i].leaf])]) m.length = some (Ent.obj true [.int .i64 L[i].var, IA L[i].z L[i].o L[i].kids, .int .i64 L[i].leaf]) := g_eq rfl
    have l4 : (m ++ [some (Ent.obj true [.int .i64 L[i].var, IA L[i].z L[i].o L[i].kids, .int .i64 L[i].leaf])]).length = m.length + 1 := by simp
    generalize m ++ [some (Ent.obj true [.int .i64 L[i].var, IA L[i].z L[i].o L[i].kids, .int .i64 L[i].leaf])] = m4 at sn f4 gq l4
    have ld0 : loadA none m4 (.ptr m.length (0 + 0)) = some (.int .i64 L[i].var) := by rw [ld_ptr, gq]; rfl
    have ld1 : loadA none m4 (.ptr m.length (0 + 1)) = some (IA L[i].z L[i].o L[i].kids) := by rw [ld_ptr, gq]; rfl
    have ld2 : loadA none m4 (.ptr m.length (0 + 2)) = some (.int .i64 L[i].leaf) := by rw [ld_ptr, gq]; rfl
    have fm := f.len
    have gb2 : m.get b2 = some (.obj true [.ptr s 0]) := (f.get b2 hb2 hF02).trans hg2
    have gb24 : m4.get b2 = some (.obj true [.ptr s 0]) := (f4.get b2 (by omega) (by simp)).trans gb2
    have gn4 : m4.get nm = some (.obj false ((csF ids L.length).map (AV.int .i64))) := (f4.get nm hnml (by simp)).trans hg
    have f04 : Fr m0 m4 F0 := Fr.trans f f4 fun _ hh => by cases hh
    have st4 := st.app f4
    have e1 : L66_3 (.ptr b1 0) (.ptr b2 0) (.arr nm 0 L.length none) (RL zl ol L) (.int .i64 L.length) (.int .i64 i) m (K66_3 (finK cfg.P f66.results.toList)) = _ := L66_3_eq _ _ _ _ _ _ m _
    rw [binA_lss, Option.bind_some, ifA_dec, if_pos (by omega), hix, Option.bind_some, ld_v3, Option.bind_some, new_n, new_n] at e1
    dsimp only at e1
    rw [sn, Option.bind_some, fa_ptr, Option.bind_some, ld0, Option.bind_some, binA_lss, Option.bind_some, ifA_dec] at e1
    unfold stepL at es
    rw [hgd] at es
    dsimp only at es
    by_cases hv : L[i].var < 0
    · rw [if_pos hv] at es
      obtain ⟨r, er, J, bl1, bl2⟩ := load_leaf h hil I (by rw [hgd]; exact hv)
      rw [hgd] at er J bl1 bl2
      obtain ⟨m5, F5, e54, k1, k2, k3⟩ := A54 st4 (x := L[i].leaf) ⟨bl1, bl2⟩ (by omega) (by omega)
      have gn5 : m5.get nm = some (.obj false ((csF ids L.length).map (AV.int .i64))) := (k2.get nm (by omega) hnF).trans gn4
      have hnF5 : nm ∉ F5 := fun hh => by
        rcases k3 nm hh with h4 | h4
        · exact hnF h4
        · omega
      have sti := st_int (y := ((l.idxOf (leafN L[i].leaf) : Nat) : Int)) gn5 (i := i) (by rw [csF_len (by omega)]; omega)
      have ecs := csF_set (ids := ids) (n := L.length) (by omega) (l.idxOf (leafN L[i].leaf))
      rw [hidl] at ecs
      rw [ecs] at sti
      rw [if_pos hv, ld_box gb24, Option.bind_some, fa_ptr, Option.bind_some, ld2, Option.bind_some, e54, Option.bind_some, index_arr hil, Option.bind_some, sti, Option.bind_some, i_add1 (by omega), Option.bind_some] at e1
      have hn5 := get_lt gn5
      have hgr : Gr m F F5 := fun y hy => by
        rcases k3 y hy with h4 | h4
        · exact .inl h4
        · exact .inr (by omega)
      obtain ⟨m', F', e, k⟩ := ih (i + 1) (m5.set nm (some (.obj false ((csF (ids ++ [l.idxOf (leafN L[i].leaf)]) L.length).map (AV.int .i64))))) F5 (by omega) (by rw [es]; exact k1.move fun y hy => g_sne (fun e => hnF5 (e ▸ hy))) (by rw [es]; exact g_seq rfl hn5) hnF5 ((Fr.trans f04 k2 gr).set _ (.inr hnm)) (Gr.trans f.len gr hgr)
      exact ⟨m', F', e1.trans e, k⟩
    · rw [if_neg hv] at es
      obtain ⟨r, id, er, J, hno, hkne⟩ := load_node h h1 hal hil I (by omega) (by rw [hgd]; exact hv)
      obtain ⟨v, hve, hvl, hkl, hkk⟩ := rv_node h hil (by rw [hgd]; omega)
      rw [hgd] at er hno hkne hve hkl hkk
      have hab := h1 _ (List.getElem_mem hvl)
      have hget : ar.getD v 0 = ar[v] := by rw [List.getD_eq_getElem?_getD, List.getElem?_eq_getElem hvl, Option.getD_some]
      have hkl2 : L[i].kids.length ≤ 1000 := by omega
      have mk := make_int m4 L[i].kids.length (by omega)
      have f5 : Fr m4 (m4 ++ [some (Ent.obj false ((csF [] L[i].kids.length).map (AV.int .i64)))]) [] := Fr.app m4 _ _
      have gk : Mem.get (m4 ++ [some (Ent.obj false ((csF [] L[i].kids.length).map (AV.int .i64)))]) m4.length = some (Ent.obj false ((csF [] L[i].kids.length).map (AV.int .i64))) := g_eq rfl
      have l5 : (m4 ++ [some (Ent.obj false ((csF [] L[i].kids.length).map (AV.int .i64)))]).length = m4.length + 1 := by simp
      generalize m4 ++ [some (Ent.obj false ((csF [] L[i].kids.length).map (AV.int .i64)))] = m5 at mk f5 gk l5
      have ld15 : loadA none m5 (.ptr m.length (0 + 1)) = some (IA L[i].z L[i].o L[i].kids) := by rw [ld_ptr, f5.get _ (by omega) (by simp), gq]; rfl
      have gn5 : m5.get nm = some (.obj false ((csF ids L.length).map (AV.int .i64))) := (f5.get nm (by omega) (by simp)).trans gn4
      obtain ⟨m6, e9, f6, gk6⟩ := W66k (nm := nm) (kids := L[i].kids) (ids := ids) (z := L[i].z) (o := L[i].o) (kq := m4.length) (n := L.length) (m1 := m5) (by omega) (by omega) (fun k hk' => by
        obtain ⟨t, rfl, ht, _⟩ := hkk k hk'
        exact ⟨t, rfl, by omega⟩) hkl2 (by omega) (by omega) gn5 (.ptr b1 0) (.ptr b2 0) (.int .i64 i) (.ptr m.length 0) (RL zl ol L) (.int .i64 L.length) (.int .i64 i) (K66_3 (finK cfg.P f66.results.toList)) L[i].kids.length 0 m5 (by omega) (Fr.refl _ _) gk
      have e9 : L66_9 (.ptr b1 0) (.ptr b2 0) (.arr nm 0 L.length none) (.int .i64 i) (.ptr m.length 0) (.arr m4.length 0 L[i].kids.length none) (RL zl ol L) (.int .i64 L.length) (.int .i64 i) (IA L[i].z L[i].o L[i].kids) (.int .i64 L[i].kids.length) (.int .i64 0) m5 (K66_9 (K66_3 (finK cfg.P f66.results.toList))) = _ := e9
      have lm6 := f6.len
      have g6 : ∀ y, y < m4.length → m6.get y = m4.get y := fun y hy => (f6.get y (by omega) (by simp; omega)).trans (f5.get y (by omega) (by simp))
      have gb26 : m6.get b2 = some (.obj true [.ptr s 0]) := (g6 b2 (by omega)).trans gb24
      have ld06 : loadA none m6 (.ptr m.length (0 + 0)) = some (.int .i64 L[i].var) := by rw [ld_ptr, g6 _ (by omega), gq]; rfl
      have f7 := kill_fr m6 m4.length
      have l7 := f7.len
      have g7 : ∀ y, y < m4.length → Mem.get (kill m6 [m4.length]) y = m4.get y := fun y hy => (f7.get y (by omega) (by simp; omega)).trans (g6 y hy)
      have st7 : St8 (kill m6 [m4.length]) s F arms 4000 l := st4.move fun y hy => g7 y (st4.lt y hy)
      have hfz : frz m6 fuelF (.arr m4.length 0 L[i].kids.length none) = some (IA false .no ((L[i].kids.map fun k => ids.getD k.toNat 0).map Int.ofNat), [m4.length]) := by
        have := frz_int gk6
        rw [List.length_map, List.length_map] at this
        exact this
      have hmf : mapF (frzI m6) [.ptr s 0, .int .i64 L[i].var, .arr m4.length 0 L[i].kids.length none] = some ([.ptr s 0, .int .i64 L[i].var, IA false .no ((L[i].kids.map fun k => ids.getD k.toNat 0).map Int.ofNat)], [m4.length]) := by
        simp [mapF, frzI, hfz]
      obtain ⟨m8, F8, e59, k1, k2, k3⟩ := A59 st7 (v := L[i].var) (z := false) (o := .no) (ks := (L[i].kids.map fun k => ids.getD k.toNat 0).map Int.ofNat) (by simpa using hkne) hno rfl (.inl rfl) (by omega) (by omega)
      rw [er] at e59 k1 es
      dsimp only at e59 k1 es
      have hc : frzCall (AC cfg) m6 59 [.ptr s 0, .int .i64 L[i].var, .arr m4.length 0 L[i].kids.length none] = some (.int .i64 (id : Nat), m8) := by
        unfold frzCall
        rw [hmf, Option.bind_some]
        exact e59
      have gn8 : m8.get nm = some (.obj false ((csF ids L.length).map (AV.int .i64))) := (k2.get nm (by omega) hnF).trans ((g7 nm (by omega)).trans gn4)
      have hnF8 : nm ∉ F8 := fun hh => by
        rcases k3 nm hh with h4 | h4
        · exact hnF h4
        · omega
      have sti := st_int (y := ((id : Nat) : Int)) gn8 (i := i) (by rw [csF_len (by omega)]; omega)
      have ecs := csF_set (ids := ids) (n := L.length) (by omega) id
      rw [hidl] at ecs
      rw [ecs] at sti
      rw [if_neg hv, fa_ptr, Option.bind_some, ld1, Option.bind_some, len_IA, Option.bind_some, mk, Option.bind_some, Option.bind_some, ld15, Option.bind_some, len_IA, Option.bind_some, e9, K66_9_x2, ld_box gb26, Option.bind_some, fa_ptr, Option.bind_some, ld06, Option.bind_some, hc, Option.bind_some, index_arr hil, Option.bind_some, sti, Option.bind_some, i_add1 (by omega), Option.bind_some] at e1
      have hn8 := get_lt gn8
      have hgr : Gr m F F8 := fun y hy => by
        rcases k3 y hy with h4 | h4
        · exact .inl h4
        · exact .inr (by omega)
      have F48 : Fr m0 m8 F0 := Fr.trans (Fr.trans (Fr.trans (Fr.trans f04 f5 fun _ hh => by cases hh) f6 fun y hy => by
        obtain rfl : y = m4.length := by simpa using hy
        exact .inr (by omega)) f7 fun y hy => by
        obtain rfl : y = m4.length := by simpa using hy
        exact .inr (by omega)) k2 gr
      obtain ⟨m', F', e, k⟩ := ih (i + 1) (m8.set nm (some (.obj false ((csF (ids ++ [id]) L.length).map (AV.int .i64))))) F8 (by omega) (by rw [es]; exact k1.move fun y hy => g_sne (fun e => hnF8 (e ▸ hy))) (by rw [es, Int.toNat_natCast]; exact g_seq rfl hn8) hnF8 (F48.set _ (.inr hnm)) (Gr.trans f.len gr hgr)
      exact ⟨m', F', e1.trans e, k⟩
end
end Go.Ab

/- Load; the reference's Table: by value. -/
set_option linter.unusedVariables false
set_option linter.unusedSimpArgs false
set_option linter.unusedSectionVars false
set_option maxRecDepth 100000
namespace Go.Ab
open Go.Proofs Go.Proofs.Tryd

theorem box_ls (sh : Sh) (z : Bool) (o : Own) (es : List AV) (m : Mem) : boxA none none m (.lst sh z o es) = some (.ptr m.length 0, m ++ [some (Ent.obj true [.lst sh z o es])]) := rfl
section
variable {s : Nat} {zs zl : Bool} {os ol : Own} {ar : List Int} {F : List Nat} {l0 : List ND} {L : List RN}
theorem A66 (h : RV ar L) (h1 : ∀ x ∈ ar, 1 ≤ x ∧ x ≤ 64) (hal : ar.length ≤ 16) (g0 : GoodL ar l0) (hl : l0.length + L.length < 4000) (hL : 0 < L.length) {arms : AV} {m : Mem} (st : St8 m s F arms 4000 l0) {b1 b2 : Nat} (hF1 : b1 ∉ F) (hF2 : b2 ∉ F) (g1 : m.get b1 = some (.obj true [RL zl ol L])) (g2 : m.get b2 = some (.obj true [.ptr s 0])) :
    ∃ m' F', AC cfg 66 [.ptr b1 0, .ptr b2 0] m = some (.int .i64 ((loadF L l0 L.length).2.getD (L.length - 1) 0 : Nat), m') ∧ St8 m' s F' arms 4000 (loadF L l0 L.length).1 ∧ Fr m m' F ∧ Gr m F F' := by
  have mk := make_int m L.length (by omega)
  have f1 := Fr.app m (some (Ent.obj false ((csF [] L.length).map (AV.int .i64)))) F
  have hb1 := get_lt g1
  obtain ⟨m', F', e, k⟩ := W66 (s := s) (nm := m.length) (arms := arms) (zl := zl) (ol := ol) h h1 hal g0 hl hL (Nat.le_refl _) hb1 (get_lt g2) hF1 hF2 st.lt g1 g2 L.length 0 (m ++ [some (Ent.obj false ((csF [] L.length).map (AV.int .i64)))]) F (by omega) (st.app (Fr.app m _ _)) (g_eq rfl) (fun hh => by have := st.lt _ hh; omega) f1 (Gr.refl _ _)
  refine ⟨m', F', ?_, k⟩
  have e : L66_3 (.ptr b1 0) (.ptr b2 0) (.arr m.length 0 L.length none) (RL zl ol L) (.int .i64 L.length) (.int .i64 0) (m ++ [some (Ent.obj false ((csF [] L.length).map (AV.int .i64)))]) (K66_3 (finK cfg.P f66.results.toList)) = _ := e
  rw [T66, ld_box g1, Option.bind_some, len_RL, Option.bind_some, mk, Option.bind_some, ld_box (show Mem.get (m ++ [some (Ent.obj false ((csF [] L.length).map (AV.int .i64)))]) b1 = some (.obj true [RL zl ol L]) by rw [g_lt hb1]; exact g1), Option.bind_some, len_RL, Option.bind_some]
  exact e
theorem A37v (h : okF ar L L.length 0 = true) (h1 : ∀ x ∈ ar, 1 ≤ x ∧ x ≤ 64) (hal : ar.length ≤ 16) (g0 : GoodL ar l0) (hl : l0.length + L.length < 4000) {m : Mem} (st : St8 m s F (IA zs os ar) 4000 l0) :
    ∃ m' F', AC cfg 37 [.ptr s 0, RL zl ol L] m = some (.tup [.int .i64 ((loadF L l0 L.length).2.getD (L.length - 1) 0 : Nat), .int .i64 0], m') ∧ St8 m' s F' (IA zs os ar) 4000 (loadF L l0 L.length).1 ∧ Fr m m' F ∧ Gr m F F' := by
  obtain ⟨hL, hrv⟩ := okF_RV L.length 0 (by omega) h
  have hrv : RV ar L := fun i hi => hrv i (Nat.zero_le _) hi
  have f2 : Fr m ((m ++ [some (Ent.obj true [.ptr s 0])]) ++ [some (Ent.obj true [RL zl ol L])]) [] := (Fr.app m _ _).snoc _
  have st2 := st.app f2
  have e50 := A50 st2 (by omega)
  have hs : ∃ na p, Mem.get m s = some (Ent.obj true [IA zs os ar, na, .mref p, .int .i64 4000]) := by
    obtain ⟨p, na, T, h, rfl⟩ := st
    exact ⟨na, p, h.hs⟩
  obtain ⟨na, p, hs⟩ := hs
  have hsl := get_lt hs
  have p65 := fun d m => pc65 zs zl os ol ar L (by omega) h1 d m
  rw [h] at p65
  obtain ⟨m', F', id, l', e52, hQ, k1, k2, k3⟩ := A52x (g := 66) (caps := [.ptr (m.length + 1) 0, .ptr m.length 0]) (Q := fun id l' => id = ((loadF L l0 L.length).2.getD (L.length - 1) 0 : Nat) ∧ l' = (loadF L l0 L.length).1) st2 rfl rfl rfl
    (fun m1 fr => by
      obtain ⟨m', F', e, k1, k2, k3⟩ := A66 (zl := zl) (ol := ol) hrv h1 hal g0 hl hL (st2.app fr) (b1 := m.length + 1) (b2 := m.length) (fun hh => by have := st.lt _ hh; omega) (fun hh => by have := st.lt _ hh; omega) (by rw [fr.get _ (by simp) (by simp)]; exact (by simp (disch := (first | assumption | omega | (simp only [List.length_append, List.length_set, List.length_cons, List.length_nil]; first | done | omega))) only [resv1, g_lt, g_eq, g_sne, g_seq]; first | done | rfl)) (by rw [fr.get _ (by simp) (by simp)]; exact (by simp (disch := (first | assumption | omega | (simp only [List.length_append, List.length_set, List.length_cons, List.length_nil]; first | done | omega))) only [resv1, g_lt, g_eq, g_sne, g_seq]; first | done | rfl))
      exact ⟨m', F', _, _, e, ⟨rfl, rfl⟩, k1, k2, k3⟩)
  obtain ⟨rfl, rfl⟩ := hQ
  refine ⟨m', F', ?_, k1, Fr.trans (f2.mono (by simp)) k2 fun y hy => .inl hy, Gr.trans f2.len (Gr.refl _ _) k3⟩
  rw [T37]
  repeat ((with_reducible (first | apply bs | apply bsy)); (focus (first | (simp (disch := (first | assumption | omega | (simp only [List.length_append, List.length_set, List.length_cons, List.length_nil]; first | done | omega))) only [List.all_cons, List.all_nil, Bool.and_true, Bool.and_self, beq_self_eq_true, resv1, List.length_map, ld_v3, ld_v1, binA_eql, binA_neq, binA_lss, binA_leq, binA_gtr, binA_geq, loadA_one, un_not, ld_ptr, st_ptr, putE1, objE_obj, Option.bind_some, cut1, cut3, cut4, nil_ptr, fa_ptr, g_lt, g_eq, g_sne, g_seq, new_n, box_n, List.getElem?_cons_zero, List.getElem?_cons_succ, ex0, ex1, Sh.size, cells_int, aok_int, cells_bool, aok_bool, cells_str, aok_str, cells_lst, aok_lst, cells_ptr, aok_ptr, cells_arr, aok_arr, cells_fn, aok_fn, cells_mref, aok_mref, cells_nilp, aok_nilp, cells_agg, shOk_n, shOk_s, lenA_lst, List.length_cons, List.length_nil, if_true, putAt, List.take_succ_cons, List.take_zero, List.drop_succ_cons, List.drop_zero, List.cons_append, List.nil_append, List.append_nil, Nat.zero_add, Nat.reduceAdd, Nat.reduceLeDiff, Nat.le_refl, List.drop_nil, List.take_nil, List.length_append, List.length_set, box_p, box_ls, e50]; first | done | rfl) | rfl)); try dsimp only)
  rw [ifA_f]
  repeat ((with_reducible (first | apply bs | apply bsy)); (focus (first | (simp (disch := (first | assumption | omega | (simp only [List.length_append, List.length_set, List.length_cons, List.length_nil]; first | done | omega))) only [List.all_cons, List.all_nil, Bool.and_true, Bool.and_self, beq_self_eq_true, resv1, List.length_map, ld_v3, ld_v1, binA_eql, binA_neq, binA_lss, binA_leq, binA_gtr, binA_geq, loadA_one, un_not, ld_ptr, st_ptr, putE1, objE_obj, Option.bind_some, cut1, cut3, cut4, nil_ptr, fa_ptr, g_lt, g_eq, g_sne, g_seq, new_n, box_n, List.getElem?_cons_zero, List.getElem?_cons_succ, ex0, ex1, Sh.size, cells_int, aok_int, cells_bool, aok_bool, cells_str, aok_str, cells_lst, aok_lst, cells_ptr, aok_ptr, cells_arr, aok_arr, cells_fn, aok_fn, cells_mref, aok_mref, cells_nilp, aok_nilp, cells_agg, shOk_n, shOk_s, lenA_lst, List.length_cons, List.length_nil, if_true, putAt, List.take_succ_cons, List.take_zero, List.drop_succ_cons, List.drop_zero, List.cons_append, List.nil_append, List.append_nil, Nat.zero_add, Nat.reduceAdd, Nat.reduceLeDiff, Nat.le_refl, List.drop_nil, List.take_nil, List.length_append, List.length_set, hs, p65]; first | done | rfl) | rfl)); try dsimp only)
  rw [Bool.not_true, ifA_f]
  repeat ((with_reducible (first | apply bs | apply bsy)); (focus (first | (simp (disch := (first | assumption | omega | (simp only [List.length_append, List.length_set, List.length_cons, List.length_nil]; first | done | omega))) only [List.all_cons, List.all_nil, Bool.and_true, Bool.and_self, beq_self_eq_true, resv1, List.length_map, ld_v3, ld_v1, binA_eql, binA_neq, binA_lss, binA_leq, binA_gtr, binA_geq, loadA_one, un_not, ld_ptr, st_ptr, putE1, objE_obj, Option.bind_some, cut1, cut3, cut4, nil_ptr, fa_ptr, g_lt, g_eq, g_sne, g_seq, new_n, box_n, List.getElem?_cons_zero, List.getElem?_cons_succ, ex0, ex1, Sh.size, cells_int, aok_int, cells_bool, aok_bool, cells_str, aok_str, cells_lst, aok_lst, cells_ptr, aok_ptr, cells_arr, aok_arr, cells_fn, aok_fn, cells_mref, aok_mref, cells_nilp, aok_nilp, cells_agg, shOk_n, shOk_s, lenA_lst, List.length_cons, List.length_nil, if_true, putAt, List.take_succ_cons, List.take_zero, List.drop_succ_cons, List.drop_zero, List.cons_append, List.nil_append, List.append_nil, Nat.zero_add, Nat.reduceAdd, Nat.reduceLeDiff, Nat.le_refl, List.drop_nil, List.take_nil, List.length_append, List.length_set, e52]; first | done | rfl) | rfl)); try dsimp only)
end
/-! ### Table -/
end Go.Ab

/- What the interpreter does, function by function. -/
set_option maxRecDepth 100000
set_option linter.unusedVariables false
namespace Go.Ab
open Go.Proofs.Tryd
/-! ### sortilege/sortilegelaw23.DiagramLoads -/
theorem T7 (a0 a1 : AV) (m : Mem) : AC cfg 7 [a0, a1] m =
  (pcall (AP cfg) none m 11 [a0]).bind fun r1 =>
  (lenA false a1).bind fun v2 =>
  (maxA false v2 (.int .i64 60)).bind fun v3 =>
  (sliceT (some 3) a1 none (some v3) none).bind fun v4 =>
  (pcall (AP cfg) none r1.2 12 [r1.1]).bind fun r5 =>
  (binA .other .neq r5.1 (.int .i64 0)).bind fun v6 =>
  ifA v6 (
  (pcall (AP cfg) none r5.2 13 []).bind fun r7 =>
  some (r7.1, r7.2)) (
  (AC cfg 14 [r1.1] r5.2).bind fun r8 =>
  (extractA r8.1 0).bind fun v9 =>
  (extractA r8.1 1).bind fun v10 =>
  (binA .other .neq v10 (.int .i64 0)).bind fun v11 =>
  ifA v11 (
  some ((.bool false), r8.2)) (
  (AC cfg 37 [v9, v4] r8.2).bind fun r12 =>
  (extractA r12.1 0).bind fun v13 =>
  (extractA r12.1 1).bind fun v14 =>
  (pcall (AP cfg) none r12.2 39 [v4]).bind fun r15 =>
  (pcall (AP cfg) none r15.2 38 [r1.1, r15.1]).bind fun r16 =>
  (unA .not r16.1).bind fun v17 =>
  ifA v17 (
  (binA .other .eql v14 (.int .i64 1)).bind fun v18 =>
  ifA v18 (
  (binA .other .eql v13 (.int .i64 0)).bind fun v19 =>
  ifA v19 (
  (AC cfg 20 [v9] r16.2).bind fun r20 =>
  (binA .other .eql r20.1 (.int .i64 0)).bind fun v21 =>
  ifA v21 (
  (pcall (AP cfg) none r20.2 13 []).bind fun r22 =>
  some (r22.1, r22.2)) (
  some ((.bool false), r20.2))) (
  some ((.bool false), r16.2))) (
  some ((.bool false), r16.2))) (
  (pcall (AP cfg) none r16.2 39 [v4]).bind fun r23 =>
  (pcall (AP cfg) none r23.2 40 [r1.1, r23.1]).bind fun r24 =>
  (binA .other .eql v14 (.int .i64 0)).bind fun v25 =>
  ifA v25 (
  (AC cfg 34 [v9, v13, r1.1, r24.1] r24.2).bind fun r26 =>
  ifA r26.1 (
  (pcall (AP cfg) none r26.2 13 []).bind fun r27 =>
  some (r27.1, r27.2)) (
  some ((.bool false), r26.2))) (
  some ((.bool false), r24.2))))) :=
(AC_eq cfg 7 [a0, a1] m (fn := f7) (c := bodyOf f7) at7 rfl).trans (by kernel_rfl)
/-! ### sortilege/sortilegelaw23.DiagramBack -/
theorem T10 (a0 a1 : AV) (m : Mem) : AC cfg 10 [a0, a1] m =
  (pcall (AP cfg) none m 11 [a0]).bind fun r1 =>
  (pcall (AP cfg) none r1.2 12 [r1.1]).bind fun r2 =>
  (binA .other .neq r2.1 (.int .i64 0)).bind fun v3 =>
  ifA v3 (
  (pcall (AP cfg) none r2.2 13 []).bind fun r4 =>
  some (r4.1, r4.2)) (
  (pcall (AP cfg) none r2.2 28 [r1.1, a1]).bind fun r5 =>
  (AC cfg 29 [r1.1, r5.1] r5.2).bind fun r6 =>
  (extractA r6.1 0).bind fun v7 =>
  (extractA r6.1 1).bind fun v8 =>
  (extractA r6.1 2).bind fun v9 =>
  (unA .not v9).bind fun v10 =>
  ifA v10 (
  some ((.bool false), r6.2)) (
  (AC cfg 25 [v7, v8] r6.2).bind fun r11 =>
  (extractA r11.1 0).bind fun v12 =>
  (extractA r11.1 1).bind fun v13 =>
  (AC cfg 20 [v7] r11.2).bind fun r14 =>
  (AC cfg 37 [v7, v12] r14.2).bind fun r15 =>
  (extractA r15.1 0).bind fun v16 =>
  (extractA r15.1 1).bind fun v17 =>
  (AC cfg 14 [r1.1] r15.2).bind fun r18 =>
  (extractA r18.1 0).bind fun v19 =>
  (extractA r18.1 1).bind fun v20 =>
  (AC cfg 37 [v19, v12] r18.2).bind fun r21 =>
  (extractA r21.1 0).bind fun v22 =>
  (extractA r21.1 1).bind fun v23 =>
  (binA .other .eql v13 (.int .i64 0)).bind fun v24 =>
  ifA v24 (
  (binA .other .eql v17 (.int .i64 0)).bind fun v25 =>
  ifA v25 (
  (binA .other .eql v16 v8).bind fun v26 =>
  ifA v26 (
  (AC cfg 20 [v7] r21.2).bind fun r27 =>
  (binA .other .eql r27.1 r14.1).bind fun v28 =>
  ifA v28 (
  (binA .other .eql v23 (.int .i64 0)).bind fun v29 =>
  ifA v29 (
  (AC cfg 34 [v19, v22, r1.1, r5.1] r27.2).bind fun r30 =>
  ifA r30.1 (
  (AC cfg 20 [v19] r30.2).bind fun r31 =>
  (lenA false v12).bind fun v32 =>
  (binA .other .eql r31.1 v32).bind fun v33 =>
  ifA v33 (
  (pcall (AP cfg) none r31.2 46 [r1.1, r5.1]).bind fun r34 =>
  (pcall (AP cfg) none r34.2 45 [r34.1]).bind fun r35 =>
  (pcall (AP cfg) none r35.2 39 [r35.1]).bind fun r36 =>
  (pcall (AP cfg) none r36.2 39 [v12]).bind fun r37 =>
  (pcall (AP cfg) none r37.2 22 [r36.1, r37.1]).bind fun r38 =>
  ifA r38.1 (
  (pcall (AP cfg) none r38.2 13 []).bind fun r39 =>
  some (r39.1, r39.2)) (
  some ((.bool false), r38.2))) (
  some ((.bool false), r31.2))) (
  some ((.bool false), r30.2))) (
  some ((.bool false), r27.2))) (
  some ((.bool false), r27.2))) (
  some ((.bool false), r21.2))) (
  some ((.bool false), r21.2))) (
  some ((.bool false), r21.2)))) :=
(AC_eq cfg 10 [a0, a1] m (fn := f10) (c := bodyOf f10) at10 rfl).trans (by kernel_rfl)
end Go.Ab

/- DiagramLoads in values. -/
set_option linter.unusedVariables false
set_option linter.unusedSimpArgs false
set_option linter.unusedSectionVars false
set_option maxRecDepth 100000
namespace Go.Ab
open Go.Proofs Go.Proofs.Tryd

inductive GS (e : Nat) (m : Mem) : AV → List AV → List Nat → Prop
  | none : GS e m (.lst none true .full []) [] []
  | some (t : Nat) (es : List AV) (ht : m.get t = some (.tok es.length 3)) (hne : es ≠ []) : GS e m (.lst (some 3) false (.tok t e) es) es [t]
end Go.Ab
