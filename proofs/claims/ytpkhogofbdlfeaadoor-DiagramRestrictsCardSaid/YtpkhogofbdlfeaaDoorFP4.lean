/- Tables, the builder of diagrams, by value. -/
import Derived.Test.YtpkhogofbdlfeaaDoorFP3
import Derived.Test.YtpkhogofbdlfeaaDoorFP2
set_option linter.unusedVariables false
set_option linter.unusedSimpArgs false
set_option linter.unusedSectionVars false
set_option maxRecDepth 100000
namespace Go.Ab
open Go.Proofs Go.Proofs.Tryd

theorem n_rem {tk : TK} {a b : Nat} (h : b ≠ 0) : binA tk .rem (.int .i64 a) (.int .i64 b) = some (.int .i64 (a % b : Nat)) := by
  have e : binA tk .rem (.int .i64 a) (.int .i64 b) = if (b : Int) = 0 then none else some (.int .i64 ((a : Int).tmod b)) := by cases tk <;> rfl
  rw [e, if_neg (by omega)]
  rfl
theorem n_quo {tk : TK} {a b : Nat} (h : b ≠ 0) (h' : a < 9223372036854775808) : binA tk .quo (.int .i64 a) (.int .i64 b) = some (.int .i64 (a / b : Nat)) := by
  have e : binA tk .quo (.int .i64 a) (.int .i64 b) = if (b : Int) = 0 then none else some (.int .i64 (IntKind.wrap .i64 ((a : Int).tdiv b))) := by cases tk <;> rfl
  rw [e, if_neg (by omega)]
  have e2 : (a : Int).tdiv b = ((a / b : Nat) : Int) := rfl
  have := Nat.div_le_self a b
  rw [e2]
  generalize a / b = q at *
  rw [wrap_i64 (by omega) (by omega)]
theorem n_mul {tk : TK} {a b : Nat} (h : a * b < 9223372036854775808) : binA tk .mul (.int .i64 a) (.int .i64 b) = some (.int .i64 (a * b : Nat)) := by
  rw [binA_mul, ← Int.natCast_mul]
  generalize a * b = q at *
  rw [wrap_i64 (by omega) (by omega)]
theorem rem5 (tk : TK) (a : Int) : binA tk .rem (.int .i64 a) (.int .i64 5) = some (.int .i64 (a.tmod 5)) := by cases tk <;> rfl
/-! ### Rows that grow -/
inductive GR (e : Nat) (m : Mem) : AV → List AV → List Nat → Prop
  | none : GR e m (.lst none true .full []) [] []
  | some (t : Nat) (es : List AV) (ht : m.get t = some (.tok es.length 1)) (hne : es ≠ []) : GR e m (.lst none false (.tok t e) es) es [t]
theorem gr_move {e : Nat} {m m' : Mem} {x : AV} {l : List AV} {T : List Nat} (h : GR e m x l T) (f : ∀ k ∈ T, m'.get k = m.get k) : GR e m' x l T := by
  cases h with
  | none => exact .none
  | some t l ht hne => exact .some t l ((f t (by simp)).trans ht) hne
theorem gr_lt {e : Nat} {m : Mem} {x : AV} {l : List AV} {T : List Nat} (h : GR e m x l T) : ∀ k ∈ T, k < m.length := by
  cases h with
  | none => simp
  | some t l ht _ =>
    intro k hk
    obtain rfl : k = t := by simpa using hk
    exact get_lt ht
theorem gr_out {e : Nat} {m : Mem} {x : AV} {l : List AV} {T : List Nat} (h : GR e m x l T) : ∃ z o, x = .lst none z o l ∧ (z = true → l = []) := by
  cases h with
  | none => exact ⟨true, .full, rfl, fun _ => rfl⟩
  | some t l ht _ => exact ⟨false, .tok t e, rfl, fun h => by cases h⟩
theorem gr_app {e b : Nat} {m : Mem} {x : AV} {l : List AV} {T : List Nat} (h : GR e m x l T) (hl : l.length < 1000000) (hb : b ≤ 64) (y : AV) : ∃ x' m' T', appA none false e none b m x (.lst none false .full [y]) = some (x', m') ∧ GR e m' x' (l ++ [y]) T' ∧ Fr m m' T ∧ Gr m T T' := by
  have h2 : (l.length + 1) * b ≤ roomA := by
    have := Nat.mul_le_mul (show l.length + 1 ≤ 1000000 by omega) hb
    unfold roomA; omega
  cases h with
  | none =>
    refine ⟨.lst none false (.tok m.length e) [y], m ++ [some (Ent.tok 1 1)], [m.length], ?_, .some _ [y] (by simp (disch := (first | assumption | omega | (simp only [List.length_append, List.length_set, List.length_cons, List.length_nil]; first | done | omega))) only [resv1, g_lt, g_eq, g_sne, g_seq]; first | done | rfl) (by simp), Fr.app m _ _, fun k hk => ?_⟩
    · have h2 : b ≤ roomA := by simpa using h2
      simp [appA, h2, newAt, Sh.size]
    · obtain rfl : k = m.length := by simpa using hk
      exact .inr (Nat.le_refl _)
  | some t es ht _ =>
    have htl := get_lt ht
    refine ⟨.lst none false (.tok t e) (l ++ [y]), m.set t (some (Ent.tok (l.length + 1) 1)), [t], ?_, ?_, (Fr.refl m [t]).set _ (.inl (by simp)), Gr.refl _ _⟩
    · simp [appA, ht, Sh.size, h2]
    · refine .some t (l ++ [y]) ?_ (by simp)
      rw [g_seq rfl htl, List.length_append]; rfl
/-! ### Places -/
theorem places_prod {most : Int} : ∀ (l : List Int) (acc : Int), (∀ a ∈ l, 1 ≤ a) → 1 ≤ acc → acc ≤ most → placesF most acc l ≠ 0 → placesF most acc l = acc * prodF l ∧ acc * prodF l ≤ most
  | [], acc, _, h1, h2, _ => by simp only [placesF, prodF]; omega
  | n :: l, acc, hl, h1, h2, h => by
    rw [placesF] at h ⊢
    have hn := hl n List.mem_cons_self
    by_cases hg : acc * n > most
    · rw [if_pos hg] at h; exact absurd rfl h
    · rw [if_neg hg] at h ⊢
      have hp : 1 ≤ acc * n := by have := Int.mul_le_mul h1 hn (by omega) (by omega); simpa using this
      have e := places_prod l (acc * n) (fun a ha => hl a (List.mem_cons_of_mem _ ha)) hp (by omega) h
      have e2 : acc * ((prodF (n :: l) : Nat) : Int) = acc * n * prodF l := by
        rw [prodF, Int.natCast_mul, Int.toNat_of_nonneg (by omega), Int.mul_assoc]
      rw [e2]
      exact e
theorem prod_pos {l : List Int} (h : ∀ a ∈ l, 1 ≤ a) : 1 ≤ prodF l := by
  induction l with
  | nil => exact Nat.le_refl _
  | cons n l ih =>
    rw [prodF]
    have h1 := h n List.mem_cons_self
    exact Nat.mul_pos (by omega) (ih fun a ha => h a (List.mem_cons_of_mem _ ha))
theorem places_big {most : Int} : ∀ (l : List Int) (acc : Int), (∀ a ∈ l, 1 ≤ a) → 1 ≤ acc → acc * prodF l ≤ most → placesF most acc l = acc * prodF l
  | [], acc, _, h1, _ => by simp [placesF, prodF]
  | n :: l, acc, hl, h1, h => by
    have hn := hl n List.mem_cons_self
    have e2 : acc * ((prodF (n :: l) : Nat) : Int) = acc * n * prodF l := by
      rw [prodF, Int.natCast_mul, Int.toNat_of_nonneg (by omega), Int.mul_assoc]
    rw [e2] at h ⊢
    have hp : 1 ≤ acc * n := by have := Int.mul_le_mul h1 hn (by omega) (by omega); simpa using this
    have hl' := prod_pos fun a ha => hl a (List.mem_cons_of_mem n ha)
    have h3 : acc * n * 1 ≤ acc * n * (prodF l : Nat) := Int.mul_le_mul_of_nonneg_left (by omega) (by omega)
    rw [placesF, if_neg (by omega)]
    exact places_big l (acc * n) (fun a ha => hl a (List.mem_cons_of_mem _ ha)) hp h
/-! ### table -/
theorem W28 {z zl : Bool} {o ol : Own} {ar l : List Int} (h1 : ar.length ≤ 16) (h2 : ∀ a ∈ ar, 1 ≤ a ∧ a ≤ 64) {N : Nat} (hN : placesF 300 1 ar = N) (hN2 : N ≤ 300) : ∀ (j i : Nat) (m : Mem) (x : AV) (t : List Int) (T : List Nat), i + j = N → GR 3 m x (t.map (AV.int .i64)) T → t.length = i → (∀ y ∈ t, 0 ≤ y ∧ y ≤ 4) →
    ∃ (m' : Mem) (x' : AV) (t' : List Int) (T' : List Nat), L28_3 (IA z o ar) (IA zl ol l) x (.int .i64 i) m (K28_3 (finK cfg.P f28.results.toList)) = some (x', m') ∧ GR 3 m' x' (t'.map (AV.int .i64)) T' ∧ t'.length = N ∧ ∀ y ∈ t', 0 ≤ y ∧ y ≤ 4 := by
  intro j
  induction j with
  | zero =>
    intro i m x t T hi h ht hy
    refine ⟨m, x, t, T, ?_, h, by omega, hy⟩
    rw [L28_3_eq, pc27 _ _ _ h1 h2 300 (by omega), Option.bind_some, hN, n_lss, Option.bind_some, ifA_dec, if_neg (by omega), K28_3_x0]
  | succ j ih =>
    intro i m x t T hi h ht hy
    have nx : ∀ (y : Int), ∃ (m' : Mem) (x' : AV) (t' : List Int) (T' : List Nat), ((appA none false 3 none 8 m x (.lst none false .full [.int .i64 ((IntKind.wrap .i64 (y.tmod 5 + 5)).tmod 5)])).bind fun r13 => L28_3 (IA z o ar) (IA zl ol l) r13.1 (.int .i64 (i + 1 : Nat)) r13.2 (K28_3 (finK cfg.P f28.results.toList))) = some (x', m') ∧ GR 3 m' x' (t'.map (AV.int .i64)) T' ∧ t'.length = N ∧ ∀ y ∈ t', 0 ≤ y ∧ y ≤ 4 := fun y => by
      obtain ⟨x1, m1, T1, ea, g1, _, _⟩ := gr_app (b := 8) h (by rw [List.length_map]; omega) (by omega) (.int .i64 ((IntKind.wrap .i64 (y.tmod 5 + 5)).tmod 5))
      rw [ea, Option.bind_some]
      have hb : 0 ≤ (IntKind.wrap .i64 (y.tmod 5 + 5)).tmod 5 ∧ (IntKind.wrap .i64 (y.tmod 5 + 5)).tmod 5 ≤ 4 := by
        have a1 := Int.tmod_lt_of_pos y (show (0:Int) < 5 by omega)
        have a2 : -5 < y.tmod 5 := by
          have hd := Int.tmod_add_mul_tdiv y 5
          rcases Int.le_total 0 y with h0 | h0
          · have := Int.tmod_nonneg (a := y) 5 h0; omega
          · have e : (-y).tmod 5 = -(y.tmod 5) := Int.neg_tmod ..
            have := Int.tmod_lt_of_pos (-y) (show (0:Int) < 5 by omega)
            omega
        rw [wrap_i64 (by omega) (by omega)]
        have b1 := Int.tmod_lt_of_pos (y.tmod 5 + 5) (show (0:Int) < 5 by omega)
        have b2 := Int.tmod_nonneg (a := y.tmod 5 + 5) 5 (by omega)
        omega
      have g2 : GR 3 m1 x1 ((t ++ [(IntKind.wrap .i64 (y.tmod 5 + 5)).tmod 5]).map (AV.int .i64)) T1 := by
        rw [List.map_append]; exact g1
      exact ih (i + 1) m1 x1 _ T1 (by omega) g2 (by simp [ht]) fun k hk => by
        rcases List.mem_append.1 hk with hk | hk
        · exact hy k hk
        · obtain rfl : k = _ := by simpa using hk
          exact hb
    rw [L28_3_eq, pc27 _ _ _ h1 h2 300 (by omega), Option.bind_some, hN, n_lss, Option.bind_some, ifA_dec, if_pos (by omega), len_IA, Option.bind_some, binA_gtr, Option.bind_some, ifA_dec]
    by_cases hl : (l.length : Int) > 0
    · rw [if_pos hl, Option.bind_some, n_rem (by omega), Option.bind_some, idx_IA (Nat.mod_lt _ (by omega)), Option.bind_some, loadA_one, Option.bind_some, rem5, Option.bind_some, binA_add, Option.bind_some, rem5, Option.bind_some, build_int, Option.bind_some]
      simp only [i_add1 (show i + 1 < 9223372036854775808 by omega)]
      exact nx _
    · rw [if_neg hl, rem5, Option.bind_some, binA_add, Option.bind_some, rem5, Option.bind_some, build_int, Option.bind_some]
      simp only [i_add1 (show i + 1 < 9223372036854775808 by omega)]
      exact nx _
theorem V28 (z zl : Bool) (o ol : Own) (ar l : List Int) (h1 : ar.length ≤ 16) (h2 : ∀ a ∈ ar, 1 ≤ a ∧ a ≤ 64) {N : Nat} (hN : placesF 300 1 ar = N) (hN2 : N ≤ 300) : ∃ (z' : Bool) (o' : Own) (t : List Int), AP cfg 28 [IA z o ar, IA zl ol l] = some (IA z' o' t) ∧ (z' = true → t = []) ∧ t.length = N ∧ ∀ y ∈ t, 0 ≤ y ∧ y ≤ 4 := by
  obtain ⟨m', x', t, T', e, g, ht, hy⟩ := W28 (z := z) (zl := zl) (o := o) (ol := ol) (l := l) h1 h2 hN hN2 N 0 [] (.lst none true .full []) [] [] (by omega) .none rfl (by simp)
  obtain ⟨z', o', rfl, hz⟩ := gr_out g
  refine ⟨z', o'.fr, t, ?_, fun h => List.map_eq_nil_iff.1 (hz h), ht, hy⟩
  refine AP_of (m := m') (v := IA z' o' t) (l := []) ?_ (fz_IA z' o' t m') rfl
  rw [T28]
  exact e
/-! ### build -/
theorem cut_IA (z : Bool) (o : Own) (t : List Int) (k : IntKind) {n i : Nat} (h : (i + 1) * n ≤ t.length) : sliceT none (IA z o t) (some (.int k (i * n : Nat))) (some (.int k ((i + 1) * n : Nat))) none = some (IA z .no (part t n i)) := by
  have h2 : i * n ≤ (i + 1) * n := Nat.mul_le_mul_right _ (by omega)
  have e : (i + 1) * n - i * n = n := by rw [Nat.add_mul, Nat.one_mul]; omega
  have e2 : part t n i = (t.take ((i + 1) * n)).drop (i * n) := by rw [List.drop_take, e]; rfl
  rw [e2]
  have e3 : sliceT none (IA z o t) (some (.int k (i * n : Nat))) (some (.int k ((i + 1) * n : Nat))) none = (boundA (List.map (AV.int .i64) t).length (some (.int k ((i + 1) * n : Nat))) (List.map (AV.int .i64) t).length).bind fun h => (boundA h (some (.int k (i * n : Nat))) 0).bind fun l => some (.lst none z .no (((List.map (AV.int .i64) t).take h).drop l)) := by
    have e4 : ∀ (es : List AV) (x y : Option AV), sliceT none (.lst none z o es) x y none = if (none : Sh) = none ∨ es = [] then (boundA es.length y es.length).bind fun h => (boundA h x 0).bind fun l => some (.lst none z .no ((es.take h).drop l)) else none := fun _ _ _ => rfl
    rw [e4, if_pos (.inl rfl)]
  rw [e3]
  have b1 : boundA (List.map (AV.int .i64) t).length (some (.int k ((i + 1) * n : Nat))) (List.map (AV.int .i64) t).length = some ((i + 1) * n) := by
    simp only [boundA, List.length_map]
    rw [if_pos ⟨by omega, by omega⟩, Int.toNat_natCast]
  have b2 : boundA ((i + 1) * n) (some (.int k (i * n : Nat))) 0 = some (i * n) := by
    simp only [boundA]
    rw [if_pos ⟨by omega, by omega⟩, Int.toNat_natCast]
  rw [b1, Option.bind_some, b2, Option.bind_some, ← List.map_take, ← List.map_drop]
def BuildAt (s : Nat) (zs za : Bool) (os oa : Own) (ar : List Int) (v n : Nat) : Prop :=
  ∀ (m : Mem) (F : List Nat) (l : List ND) (t : List Int) (z : Bool) (o : Own), St8 m s F (IA zs os ar) 4000 l → GoodL ar l → t.length = n → (∀ x ∈ t, 0 ≤ x ∧ x ≤ 4) → l.length + 2 * n ≤ 4000 → ∃ (m' : Mem) (F' : List Nat) (r : List ND) (id : Nat), AC cfg 30 [.ptr s 0, IA za oa ar, IA z o t, .int .i64 v] m = some (.tup [.int .i64 (id : Nat), .int .i64 0], m') ∧
    St8 m' s F' (IA zs os ar) 4000 (l ++ r) ∧ GoodL ar (l ++ r) ∧ TabV ar (l ++ r) id v t ∧ r.length + 1 ≤ 2 * t.length ∧ Fr m m' F ∧ Gr m F F'
theorem W30k {s : Nat} {zs za z : Bool} {os oa o : Own} {ar t : List Int} {v n a : Nat} (hv : v < ar.length) (ha : ar[v] = (a : Int)) (h1 : ∀ x ∈ ar, 1 ≤ x ∧ x ≤ 64) (hal : ar.length ≤ 16) (ht : t.length = a * n) (hn : n = prodF (ar.drop (v + 1))) (hn0 : 1 ≤ n) (htl : t.length ≤ 300) (hx : ∀ x ∈ t, 0 ≤ x ∧ x ≤ 4)
    {l0 : List ND} (hl0 : l0.length + 2 * t.length ≤ 4000) {m0 : Mem} {F0 : List Nat} (ih : BuildAt s zs za os oa ar (v + 1) n) :
    ∀ (j k : Nat) (m : Mem) (F : List Nat) (R : List ND) (ids : List Nat) (x : AV) (T : List Nat), k + j = a → St8 m s F (IA zs os ar) 4000 (l0 ++ R) → GoodL ar (l0 ++ R) → ids.length = k → (∀ i (h : i < ids.length), TabV ar (l0 ++ R) ids[i] (v + 1) (part t n i)) → R.length + k ≤ 2 * n * k →
      GR 3 m x ((ids.map Int.ofNat).map (AV.int .i64)) T → (∀ y ∈ T, y ∉ F ∧ m0.length ≤ y) → Fr m0 m F0 → Gr m0 F0 F →
      ∃ (m' : Mem) (F' : List Nat) (r : List ND) (id : Nat), L30_6 (.ptr s 0) (IA za oa ar) (IA z o t) (.int .i64 v) x (.int .i64 n) (.int .i64 k) m (K30_6 (finK cfg.P f30.results.toList)) = some (.tup [.int .i64 (id : Nat), .int .i64 0], m') ∧
        St8 m' s F' (IA zs os ar) 4000 (l0 ++ r) ∧ GoodL ar (l0 ++ r) ∧ TabV ar (l0 ++ r) id v t ∧ r.length + 1 ≤ 2 * t.length ∧ Fr m0 m' F0 ∧ Gr m0 F0 F' := by
  have hab := h1 _ (List.getElem_mem hv)
  have hget : ar.getD v 0 = (a : Int) := by rw [List.getD_eq_getElem?_getD, List.getElem?_eq_getElem hv, Option.getD_some, ha]
  have hix : indexAddrA none (IA za oa ar) (.int .i64 v) = some (.vptr [.int .i64 a]) := by rw [idx_IA hv, ha]
  intro j
  induction j with
  | zero =>
    intro k m F R ids x T hk h g hids htab hR hx' hT f gr
    obtain rfl : k = a := by omega
    obtain ⟨xz, xo, rfl, hxz⟩ := gr_out hx'
    have hb : R.length + k ≤ 2 * t.length := by rw [ht, Nat.mul_comm k n, ← Nat.mul_assoc]; exact hR
    have hk' : ∀ i ∈ ids, ∃ h : i < (l0 ++ R).length, (v : Int) < abv ar.length (l0 ++ R)[i] := fun i hi => by
      obtain ⟨q, hq, e⟩ := List.getElem_of_mem hi
      have := htab q hq
      rw [e] at this
      exact ⟨this.lt, by have := this.top this.lt; omega⟩
    have hll : (l0 ++ R).length < 4000 := by rw [List.length_append]; omega
    obtain ⟨r1, id, er, hr1, hr2, g2, tv⟩ := tab_node g h1 hal hv (ks := ids) (t := t) (by rw [hids, hget]) (by rw [ht, prod_step hv, hget, hn]; rfl) (fun q hq => by rw [← hn]; exact htab q hq) (by omega)
    have mk : makeR ar (l0 ++ R) v (ids.map Int.ofNat) = (((id : Int), 0), (l0 ++ R) ++ r1) := by
      unfold makeR
      rw [if_pos, er]
      refine ⟨by omega, by omega, by rw [Int.toNat_natCast, hget, List.length_map, hids], List.all_eq_true.2 fun q hq => ?_⟩
      obtain ⟨i, hi, rfl⟩ := List.mem_map.1 hq
      obtain ⟨hi1, hi2⟩ := hk' i hi
      unfold kidOk
      simp only [Bool.and_eq_true, decide_eq_true_eq]
      refine ⟨⟨Int.natCast_nonneg i, show (i : Int) < ((l0 ++ R).length : Nat) by omega⟩, ?_⟩
      have : (Int.ofNat i).toNat = i := rfl
      rw [this, List.getD_eq_getElem?_getD, List.getElem?_eq_getElem hi1, Option.getD_some]
      exact hi2
    obtain ⟨m2, F2, e17, k1, k2, k3⟩ := A17 (kz := xz) (ko := xo) (ks := ids.map Int.ofNat) h v (fun hh => List.map_eq_nil_iff.1 (hxz hh)) h1 hal (by rw [List.length_map]; omega) (by omega) (by omega)
    rw [mk] at e17 k1
    have e17 : AC cfg 17 [.ptr s 0, .int .i64 v, .lst none xz xo ((ids.map Int.ofNat).map (AV.int .i64))] m = _ := e17
    refine ⟨m2, F2, R ++ r1, id, ?_, by rw [← List.append_assoc]; exact k1, by rw [← List.append_assoc]; exact g2, by rw [← List.append_assoc]; exact tv, ?_, Fr.trans f k2 gr, Gr.trans f.len gr k3⟩
    · rw [L30_6_eq, hix, Option.bind_some, loadA_one, Option.bind_some, n_lss, Option.bind_some, ifA_dec, if_neg (by omega), K30_6_x0, e17, Option.bind_some]
      rfl
    · rw [List.length_append]
      by_cases hk1 : ids.length = 1
      · rw [hr2 hk1]; simp; omega
      · omega
  | succ j ihj =>
    intro k m F R ids x T hk h g hids htab hR hx' hT f gr
    have hka : k < a := by omega
    have hkn : (k + 1) * n ≤ t.length := by rw [ht]; exact Nat.mul_le_mul_right _ (by omega)
    have hkn0 : k * n ≤ (k + 1) * n := Nat.mul_le_mul_right _ (by omega)
    have hpl : (part t n k).length = n := part_len ht hka
    have hR2 : R.length + k + 2 * n ≤ 2 * t.length := by
      have : 2 * n * k + 2 * n ≤ 2 * t.length := by
        have e : 2 * n * k + 2 * n = 2 * ((k + 1) * n) := by rw [Nat.add_mul, Nat.one_mul, Nat.mul_add, Nat.mul_assoc, Nat.mul_comm n k]
        omega
      omega
    obtain ⟨m1, F1, r1, id, e30, k1, k2, k3, k4, k5, k6⟩ := ih m F (l0 ++ R) (part t n k) z .no h g hpl (fun y hy => hx y (part_mem y hy)) (by rw [List.length_append]; omega)
    rw [hpl] at k4
    have g1 : GR 3 m1 x ((ids.map Int.ofNat).map (AV.int .i64)) T := gr_move hx' fun y hy => k5.get y (gr_lt hx' y hy) (hT y hy).1
    obtain ⟨x2, m2, T2, ea, g2, f2, gg2⟩ := gr_app (b := 8) g1 (by simp; omega) (by omega) (.int .i64 (id : Nat))
    have hTF1 : ∀ y ∈ T, y ∉ F1 := fun y hy hF => by
      rcases k6 y hF with hh | hh
      · exact (hT y hy).1 hh
      · have := gr_lt hx' y hy; omega
    have st2 : St8 m2 s F1 (IA zs os ar) 4000 (l0 ++ (R ++ r1)) := by
      rw [← List.append_assoc]
      exact k1.fr f2 fun y hy hT' => hTF1 y hT' hy
    have e0 : L30_6 (.ptr s 0) (IA za oa ar) (IA z o t) (.int .i64 v) x (.int .i64 n) (.int .i64 k) m (K30_6 (finK cfg.P f30.results.toList)) = L30_6 (.ptr s 0) (IA za oa ar) (IA z o t) (.int .i64 v) x2 (.int .i64 n) (.int .i64 (k + 1 : Nat)) m2 (K30_6 (finK cfg.P f30.results.toList)) := by
      rw [L30_6_eq, hix, Option.bind_some, loadA_one, Option.bind_some, n_lss, Option.bind_some, ifA_dec, if_pos hka, n_mul (by omega), Option.bind_some, i_add1 (by omega), Option.bind_some, n_mul (by omega), Option.bind_some, cut_IA z o t .i64 hkn, Option.bind_some, i_add1 (by omega), Option.bind_some, e30, Option.bind_some, ex0, Option.bind_some, ex1, Option.bind_some, binA_neq, Option.bind_some, ifA_dec, if_neg (by simp), build_int, Option.bind_some, ea, Option.bind_some, Option.bind_some]
    rw [e0]
    refine ihj (k + 1) m2 F1 (R ++ r1) (ids ++ [id]) x2 T2 (by omega) st2 (by rw [← List.append_assoc]; exact k2) (by simp [hids]) (fun i hi => ?_) ?_ (by rw [List.map_append, List.map_append]; exact g2) (fun y hy => ?_) (Fr.trans (Fr.trans f k5 gr) f2 fun y hy => .inr (hT y hy).2) (Gr.trans f.len gr k6)
    · rw [← List.append_assoc]
      by_cases hi2 : i < ids.length
      · rw [List.getElem_append_left hi2]
        exact (htab i hi2).app g r1
      · have : i = ids.length := by simp at hi; omega
        subst this
        have e : (ids ++ [id])[ids.length]'(by simp) = id := by simp
        rw [e, hids]
        exact k3
    · rw [List.length_append, Nat.mul_add, Nat.mul_one]; omega
    · rcases gg2 y hy with hh | hh
      · exact ⟨hTF1 y hh, (hT y hh).2⟩
      · have l1 := f.len; have l2 := k5.len
        exact ⟨fun hF => by have := k1.lt y hF; omega, by omega⟩
theorem A30 {s : Nat} {zs za : Bool} {os oa : Own} {ar : List Int} (h1 : ∀ x ∈ ar, 1 ≤ x ∧ x ≤ 64) (hal : ar.length ≤ 16) (hp : prodF ar ≤ 300) : ∀ (d v : Nat), v + d = ar.length → prodF (ar.drop v) ≤ 300 → BuildAt s zs za os oa ar v (prodF (ar.drop v)) := by
  intro d
  induction d with
  | zero =>
    intro v hv hpv m F l t z o h g ht hx hl
    obtain rfl : v = ar.length := by omega
    rw [List.drop_length] at ht hl
    have ht : t.length = 1 := ht
    obtain ⟨y, rfl⟩ : ∃ y, t = [y] := List.length_eq_one_iff.1 ht
    have hy := hx y (by simp)
    have hl : l.length + 2 ≤ 4000 := hl
    obtain ⟨r, er, hr, g2, tv⟩ := leaf_facts g (x := y) ⟨hy.1, by omega⟩
    obtain ⟨m2, F2, e15, k1, k2, k3⟩ := A15 h y (by omega) (by omega)
    rw [leafR, if_pos ⟨hy.1, by omega⟩] at e15 k1
    dsimp only at e15 k1
    rw [er] at k1
    refine ⟨m2, F2, r, _, ?_, k1, g2, tv, by simp; omega, k2, k3⟩
    rw [T30, len_IA, Option.bind_some, n_eql, Option.bind_some, ifA_dec, if_pos rfl, idx_IA0 (by simp), Option.bind_some, loadA_one, Option.bind_some]
    have e15 : AC cfg 15 [.ptr s 0, .int .i64 [y][0]] m = _ := e15
    rw [e15, Option.bind_some]
    rfl
  | succ d ih =>
    intro v hv hpv m F l t z o h g ht hx hl
    have hvl : v < ar.length := by omega
    have hab := h1 _ (List.getElem_mem hvl)
    obtain ⟨a, ha⟩ := Int.eq_ofNat_of_zero_le (by omega : 0 ≤ ar[v])
    have hget : ar.getD v 0 = (a : Int) := by rw [List.getD_eq_getElem?_getD, List.getElem?_eq_getElem hvl, Option.getD_some, ha]
    have hps : prodF (ar.drop v) = a * prodF (ar.drop (v + 1)) := by rw [prod_step hvl, hget]; rfl
    have hn0 : 1 ≤ prodF (ar.drop (v + 1)) := prod_pos fun x hx => (h1 x (List.drop_subset _ _ hx)).1
    have hle : prodF (ar.drop (v + 1)) ≤ prodF (ar.drop v) := by
      rw [hps]; exact Nat.le_mul_of_pos_left _ (by omega)
    have ihv := ih (v + 1) (by omega) (by omega)
    have hta : t.length = a * prodF (ar.drop (v + 1)) := by rw [ht, hps]
    obtain ⟨m', F', r, id, e, k⟩ := W30k (z := z) (o := o) (m0 := m) (F0 := F) hvl ha h1 hal hta rfl hn0 (by omega) hx (l0 := l) (by omega) ihv a 0 m F [] [] (.lst none true .full []) [] (by omega) (by rw [List.append_nil]; exact h) (by rw [List.append_nil]; exact g) rfl (fun i hi => by simp at hi) (by simp) .none (by simp) (Fr.refl _ _) (Gr.refl _ _)
    refine ⟨m', F', r, id, ?_, k⟩
    have hix : indexAddrA none (IA za oa ar) (.int .i64 v) = some (.vptr [.int .i64 a]) := by rw [idx_IA hvl, ha]
    have hdiv : t.length / a = prodF (ar.drop (v + 1)) := by rw [hta, Nat.mul_div_cancel_left _ (by omega)]
    rw [T30, len_IA, Option.bind_some, n_eql, Option.bind_some, ifA_dec, if_neg (by omega), len_IA, Option.bind_some, hix, Option.bind_some, loadA_one, Option.bind_some, n_quo (by omega) (by omega), Option.bind_some, hdiv]
    exact e
/-- made: a new store and a table's node. -/
theorem A29 {za z : Bool} {oa o : Own} {ar t : List Int} (m : Mem) (hz : za = true → ar = []) (he : armsE ar = 0) (hp : prodF ar ≤ 300) (ht : t.length = prodF ar) (hx : ∀ x ∈ t, 0 ≤ x ∧ x ≤ 4) :
    ∃ m' s F zs os l id, AC cfg 29 [IA za oa ar, IA z o t] m = some (.tup [.ptr s 0, .int .i64 (id : Nat), .bool true], m') ∧ St8 m' s F (IA zs os ar) 4000 l ∧ GoodL ar l ∧ TabV ar l id 0 t ∧ l.length ≤ 600 ∧ Fr m m' [] ∧ ∀ x ∈ F, m.length ≤ x := by
  obtain ⟨h1, h2⟩ := armsE_ok he
  obtain ⟨m1, s, F, zs, os, e14, st, f1, hF⟩ := A14 m za oa ar hz he
  obtain ⟨m2, F2, r, id, e30, k1, k2, k3, k4, k5, k6⟩ := A30 (s := s) (zs := zs) (za := za) (os := os) (oa := oa) h2 h1 hp ar.length 0 (by omega) hp m1 F [] t z o st good_nil ht hx (by simp; have : prodF (ar.drop 0) = prodF ar := rfl; omega)
  rw [List.nil_append] at k1 k2 k3
  have e30 : AC cfg 30 [.ptr s 0, IA za oa ar, IA z o t, .int .i64 0] m1 = _ := e30
  refine ⟨m2, s, F2, zs, os, r, id, ?_, k1, k2, k3, by omega, (Fr.trans f1 k5 fun x hx => .inr (hF x hx)), fun x hx => ?_⟩
  · rw [T29, e14, Option.bind_some, ex0, Option.bind_some, ex1, Option.bind_some, binA_neq, Option.bind_some, ifA_dec, if_neg (by simp), e30, Option.bind_some]
    rfl
  · rcases k6 x hx with hh | hh
    · exact hF x hh
    · have := f1.len; omega
end Go.Ab

/- The nodes of a diagram in postorder; the reference's list. Plain Lean. -/
set_option linter.unusedVariables false
set_option linter.unusedSimpArgs false
namespace Go.Ab

def vis (l : List ND) : Nat → Nat → List Nat → List Nat
  | 0, _, out => out
  | n + 1, id, out => if id ∈ out then out else match l[id]? with
    | none => out
    | some x => (x.kids.foldl (fun o k => vis l n k.toNat o) out) ++ [id]
def Vi (l : List ND) (id : Nat) (out : List Nat) : List Nat := vis l (id + 1) id out
def Vis (l : List ND) (ks : List Int) (out : List Nat) : List Nat := ks.foldl (fun o k => Vi l k.toNat o) out
theorem foldl_same {α β : Type} {f g : β → α → β} : ∀ (l : List α) (b : β), (∀ x ∈ l, ∀ b, f b x = g b x) → l.foldl f b = l.foldl g b
  | [], _, _ => rfl
  | x :: l, b, h => by
    rw [List.foldl_cons, List.foldl_cons, h x List.mem_cons_self, foldl_same l _ fun y hy => h y (List.mem_cons_of_mem _ hy)]
section
variable {ar : List Int} {l : List ND}
theorem kid_lt (g : GoodL ar l) {i : Nat} (hi : i < l.length) : ∀ k ∈ l[i].kids, ∃ t : Nat, k = t ∧ t < i := fun k hk => by
  by_cases hv : 0 ≤ l[i].var
  · obtain ⟨t, e, ht, _⟩ := g.kid i hi hv k hk
    exact ⟨t, e, ht⟩
  · rcases g.ok _ (List.getElem_mem hi) with ⟨_, h2, _⟩ | ⟨h1, _⟩
    · rw [h2] at hk; cases hk
    · omega
theorem vis_fuel (g : GoodL ar l) : ∀ (n id m : Nat) (out : List Nat), id < l.length → id < n → id < m → vis l n id out = vis l m id out
  | 0, id, m, _, _, h, _ => by omega
  | n + 1, id, 0, _, _, _, h => by omega
  | n + 1, id, m + 1, out, hi, _, _ => by
    simp only [vis, List.getElem?_eq_getElem hi]
    rw [foldl_same l[id].kids out fun k hk b => ?_]
    obtain ⟨t, rfl, ht⟩ := kid_lt g hi k hk
    exact vis_fuel g n _ m b (by omega) (by simp; omega) (by simp; omega)
theorem Vi_eq (g : GoodL ar l) {id : Nat} (hi : id < l.length) (out : List Nat) : Vi l id out = if id ∈ out then out else Vis l l[id].kids out ++ [id] := by
  unfold Vi Vis
  rw [vis, List.getElem?_eq_getElem hi]
  dsimp only
  rw [foldl_same l[id].kids out fun k hk b => ?_]
  obtain ⟨t, rfl, ht⟩ := kid_lt g hi k hk
  exact vis_fuel g id _ _ b (by omega) (by simp; omega) (by simp [Vi])
theorem Vis_nil (out : List Nat) : Vis l [] out = out := rfl
theorem Vis_cons (k : Int) (ks : List Int) (out : List Nat) : Vis l (k :: ks) out = Vis l ks (Vi l k.toNat out) := rfl
/-- Each node behind its kids, none twice. -/
structure Cl (l : List ND) (out : List Nat) : Prop where
  nd : out.Nodup
  lt : ∀ j ∈ out, j < l.length
  cl : ∀ i (h : i < out.length) (hj : out[i] < l.length), ∀ k ∈ l[out[i]].kids, k.toNat ∈ out.take i
theorem cl_nil : Cl l [] := ⟨by simp, by simp, fun i h => by simp at h⟩
theorem Cl.kids {out : List Nat} (h : Cl l out) {j : Nat} (hj : j ∈ out) (hl : j < l.length) : ∀ k ∈ l[j].kids, k.toNat ∈ out := fun k hk => by
  obtain ⟨i, hi, e⟩ := List.getElem_of_mem hj
  subst e
  exact List.take_subset _ _ (h.cl i hi hl k hk)
theorem Cl.snoc {out : List Nat} (h : Cl l out) {id : Nat} (hi : id < l.length) (hn : id ∉ out) (hk : ∀ k ∈ l[id].kids, k.toNat ∈ out) : Cl l (out ++ [id]) := by
  refine ⟨?_, fun j hj => ?_, fun i h2 hj k hk2 => ?_⟩
  · rw [List.nodup_append]
    exact ⟨h.nd, by simp, fun a ha b hb e => by
      obtain rfl : b = id := by simpa using hb
      exact hn (e ▸ ha)⟩
  · rcases List.mem_append.1 hj with hj | hj
    · exact h.lt j hj
    · obtain rfl : j = id := by simpa using hj
      exact hi
  · by_cases hil : i < out.length
    · rw [List.take_append_of_le_length (by omega)]
      refine h.cl i hil (h.lt _ (List.getElem_mem hil)) k ?_
      have e : (out ++ [id])[i] = out[i] := List.getElem_append_left hil
      rw [List.getElem_of_eq rfl] at hk2
      have : ∀ (y : Nat) (hy : y < l.length), y = out[i] → k ∈ l[y].kids → k ∈ (l[out[i]]'(h.lt _ (List.getElem_mem hil))).kids := fun y hy e h => by subst e; exact h
      exact this _ hj e hk2
    · have hie : i = out.length := by simp at h2; omega
      subst hie
      have e : (out ++ [id])[out.length] = id := by simp
      have : ∀ (y : Nat) (hy : y < l.length), y = id → k ∈ l[y].kids → k ∈ l[id].kids := fun y hy e h => by subst e; exact h
      have := hk k (this _ hj e hk2)
      simpa using this
theorem Vi_facts (g : GoodL ar l) : ∀ id, id < l.length → ∀ out, Cl l out → Cl l (Vi l id out) ∧ id ∈ Vi l id out ∧ ∃ r, Vi l id out = out ++ r ∧ ∀ y ∈ r, y ≤ id := by
  intro id
  induction id using Nat.strongRecOn with
  | ind id ih =>
    intro hi out hc
    have key : ∀ (ks : List Int), (∀ k ∈ ks, ∃ t : Nat, k = t ∧ t < id) → ∀ out, Cl l out → Cl l (Vis l ks out) ∧ (∀ k ∈ ks, k.toNat ∈ Vis l ks out) ∧ ∃ r, Vis l ks out = out ++ r ∧ ∀ y ∈ r, y < id := by
      intro ks
      induction ks with
      | nil => intro _ out hc; exact ⟨hc, by simp, [], by simp [Vis], by simp⟩
      | cons k ks ihk =>
        intro hk out hc
        obtain ⟨t, rfl, ht⟩ := hk k List.mem_cons_self
        obtain ⟨a1, a2, r1, a3, a4⟩ := ih t ht (by omega) out hc
        obtain ⟨b1, b2, r2, b3, b4⟩ := ihk (fun k hk' => hk k (List.mem_cons_of_mem _ hk')) _ a1
        rw [Vis_cons, Int.toNat_natCast]
        refine ⟨b1, fun k hk' => ?_, r1 ++ r2, by rw [b3, a3, List.append_assoc], fun y hy => ?_⟩
        · rcases List.mem_cons.1 hk' with rfl | hk'
          · rw [b3]; exact List.mem_append_left _ (by simpa using a2)
          · exact b2 k hk'
        · rcases List.mem_append.1 hy with hy | hy
          · have := a4 y hy; omega
          · exact b4 y hy
    rw [Vi_eq g hi]
    by_cases hm : id ∈ out
    · rw [if_pos hm]; exact ⟨hc, hm, [], by simp, by simp⟩
    · rw [if_neg hm]
      obtain ⟨b1, b2, r, b3, b4⟩ := key l[id].kids (fun k hk => kid_lt g hi k hk) out hc
      refine ⟨b1.snoc hi (fun h => ?_) b2, by simp, r ++ [id], by rw [b3, List.append_assoc], fun y hy => ?_⟩
      · rw [b3] at h
        rcases List.mem_append.1 h with h | h
        · exact hm h
        · have := b4 _ h; omega
      · rcases List.mem_append.1 hy with hy | hy
        · have := b4 y hy; omega
        · have : y = id := by simpa using hy
          omega
theorem Vis_facts (g : GoodL ar l) {id : Nat} (hi : id < l.length) : ∀ (ks : List Int), (∀ k ∈ ks, ∃ t : Nat, k = t ∧ t < id) → ∀ out, Cl l out → Cl l (Vis l ks out) ∧ (∀ k ∈ ks, k.toNat ∈ Vis l ks out) ∧ ∃ r, Vis l ks out = out ++ r ∧ ∀ y ∈ r, y < id := by
  intro ks
  induction ks with
  | nil => intro _ out hc; exact ⟨hc, by simp, [], by simp [Vis], by simp⟩
  | cons k ks ihk =>
    intro hk out hc
    obtain ⟨t, rfl, ht⟩ := hk k List.mem_cons_self
    obtain ⟨a1, a2, r1, a3, a4⟩ := Vi_facts g t (by omega) out hc
    obtain ⟨b1, b2, r2, b3, b4⟩ := ihk (fun k hk' => hk k (List.mem_cons_of_mem _ hk')) _ a1
    rw [Vis_cons, Int.toNat_natCast]
    refine ⟨b1, fun k hk' => ?_, r1 ++ r2, by rw [b3, a3, List.append_assoc], fun y hy => ?_⟩
    · rcases List.mem_cons.1 hk' with rfl | hk'
      · rw [b3]; exact List.mem_append_left _ (by simpa using a2)
      · exact b2 k hk'
    · rcases List.mem_append.1 hy with hy | hy
      · have := a4 y hy; omega
      · exact b4 y hy
theorem Vis_same (g : GoodL ar l) : ∀ (ks : List Int) (out : List Nat), (∀ k ∈ ks, k.toNat ∈ out ∧ k.toNat < l.length) → Vis l ks out = out
  | [], _, _ => rfl
  | k :: ks, out, h => by
    obtain ⟨h1, h2⟩ := h k List.mem_cons_self
    rw [Vis_cons, Vi_eq g h2, if_pos h1]
    exact Vis_same g ks out fun k hk => h k (List.mem_cons_of_mem _ hk)
/-- What a node adds, where its kids are visited first. -/
theorem Vi_fold (g : GoodL ar l) {id : Nat} (hi : id < l.length) {out : List Nat} (hc : Cl l out) : Vi l id out = if id ∈ Vis l l[id].kids out then Vis l l[id].kids out else Vis l l[id].kids out ++ [id] := by
  rw [Vi_eq g hi]
  by_cases hm : id ∈ out
  · rw [Vis_same g _ _ fun k hk => ⟨hc.kids hm hi k hk, hc.lt _ (hc.kids hm hi k hk)⟩, if_pos hm]
    try rw [if_pos hm]
  · obtain ⟨b1, b2, r, b3, b4⟩ := Vis_facts g hi l[id].kids (fun k hk => kid_lt g hi k hk) out hc
    rw [if_neg hm, if_neg]
    intro h
    rw [b3] at h
    rcases List.mem_append.1 h with h | h
    · exact hm h
    · have := b4 _ h; omega
/-! ### The nodes, told by place in the list -/
def nd (l : List ND) (out : List Nat) (id : Nat) : ND := ⟨(l.getD id ⟨0, [], 0⟩).var, (l.getD id ⟨0, [], 0⟩).kids.map (fun k => ((out.idxOf k.toNat : Nat) : Int)), (l.getD id ⟨0, [], 0⟩).leaf⟩
def mapN (l : List ND) (out : List Nat) : List ND := out.map (nd l out)
theorem getD_at {id : Nat} (hi : id < l.length) : l.getD id ⟨0, [], 0⟩ = l[id] := by rw [List.getD_eq_getElem?_getD, List.getElem?_eq_getElem hi, Option.getD_some]
theorem nd_app {out : List Nat} {id : Nat} (hi : id < l.length) (hk : ∀ k ∈ l[id].kids, k.toNat ∈ out) (r : List Nat) : nd l (out ++ r) id = nd l out id := by
  unfold nd
  rw [getD_at hi]
  congr 1
  refine List.map_congr_left fun k hk' => ?_
  rw [List.idxOf_append, if_pos (hk k hk')]
theorem mapN_snoc {out : List Nat} (hc : Cl l out) {id : Nat} (hi : id < l.length) (hk : ∀ k ∈ l[id].kids, k.toNat ∈ out) : mapN l (out ++ [id]) = mapN l out ++ [nd l out id] := by
  unfold mapN
  rw [List.map_append, List.map_cons, List.map_nil, nd_app hi hk]
  congr 1
  exact List.map_congr_left fun j hj => nd_app (hc.lt j hj) (hc.kids hj (hc.lt j hj)) [id]
theorem idxOf_inj {out : List Nat} {a b : Nat} (ha : a ∈ out) (hb : b ∈ out) (e : out.idxOf a = out.idxOf b) : a = b := by
  have h1 := List.getElem_idxOf (List.idxOf_lt_length_of_mem ha)
  have h2 := List.getElem_idxOf (List.idxOf_lt_length_of_mem hb)
  rw [← h1, ← h2]
  simp only [e]
theorem nd_inj (g : GoodL ar l) {out : List Nat} {i j : Nat} (hi : i < l.length) (hj : j < l.length) (hki : ∀ k ∈ l[i].kids, k.toNat ∈ out) (hkj : ∀ k ∈ l[j].kids, k.toNat ∈ out) (e : nd l out i = nd l out j) : i = j := by
  unfold nd at e
  rw [getD_at hi, getD_at hj] at e
  injection e with e1 e2 e3
  have hk : l[i].kids = l[j].kids := by
    have hl : l[i].kids.length = l[j].kids.length := by have := congrArg List.length e2; simpa using this
    refine List.ext_getElem hl fun q h1 h2 => ?_
    have h3 := List.getElem_of_eq e2 (i := q) (by simpa using h1)
    rw [List.getElem_map, List.getElem_map] at h3
    have h4 := idxOf_inj (hki _ (List.getElem_mem h1)) (hkj _ (List.getElem_mem h2)) (by omega)
    obtain ⟨a, ea, _⟩ := kid_lt g hi _ (List.getElem_mem h1)
    obtain ⟨b, eb, _⟩ := kid_lt g hj _ (List.getElem_mem h2)
    omega
  have en : l[i] = l[j] := by
    generalize l[i] = x at *
    generalize l[j] = y at *
    obtain ⟨xv, xk, xl⟩ := x
    obtain ⟨yv, yk, yl⟩ := y
    simp only at e1 e3 hk
    rw [e1, e3, hk]
  exact nodup_inj g.nd hi hj en
theorem nd_mem (g : GoodL ar l) {out : List Nat} (hc : Cl l out) {id : Nat} (hi : id < l.length) (hk : ∀ k ∈ l[id].kids, k.toNat ∈ out) : nd l out id ∈ mapN l out ↔ id ∈ out := by
  unfold mapN
  rw [List.mem_map]
  constructor
  · rintro ⟨j, hj, e⟩
    have := nd_inj g (hc.lt j hj) hi (hc.kids hj (hc.lt j hj)) hk e
    exact this ▸ hj
  · intro h; exact ⟨id, h, rfl⟩
theorem nd_idx (g : GoodL ar l) {out : List Nat} (hc : Cl l out) {id : Nat} (hi : id < l.length) (hk : ∀ k ∈ l[id].kids, k.toNat ∈ out) : (mapN l out).idxOf (nd l out id) = out.idxOf id := by
  have key : ∀ (p : List Nat), (∀ j ∈ p, j ∈ out) → (p.map (nd l out)).idxOf (nd l out id) = p.idxOf id := by
    intro p
    induction p with
    | nil => intro _; rfl
    | cons j p ih =>
      intro h
      have hj := h j List.mem_cons_self
      rw [List.map_cons, List.idxOf_cons, List.idxOf_cons, ih fun q hq => h q (List.mem_cons_of_mem _ hq)]
      have : (nd l out j == nd l out id) = (j == id) := by
        by_cases e : j = id
        · subst e; simp
        · have : nd l out j ≠ nd l out id := fun h => e (nd_inj g (hc.lt j hj) hi (hc.kids hj (hc.lt j hj)) hk h)
          rw [beq_eq_false_iff_ne.2 e, beq_eq_false_iff_ne.2 this]
      rw [this]
  exact key out fun _ h => h
/-- What the reference's place does with its node. -/
theorem put_ref (g : GoodL ar l) {out : List Nat} (hc : Cl l out) {id : Nat} (hi : id < l.length) (hk : ∀ k ∈ l[id].kids, k.toNat ∈ out) :
    ins (mapN l out) (nd l out id) = mapN l (if id ∈ out then out else out ++ [id]) ∧ (mapN l out).idxOf (nd l out id) = (if id ∈ out then out else out ++ [id]).idxOf id := by
  have hm := nd_mem g hc hi hk
  rw [nd_idx g hc hi hk]
  unfold ins
  by_cases h : id ∈ out
  · rw [if_pos (hm.2 h), if_pos h]; exact ⟨rfl, rfl⟩
  · rw [if_neg (fun hh => h (hm.1 hh)), if_neg h, mapN_snoc hc hi hk, List.idxOf_append, if_neg h]
    refine ⟨rfl, ?_⟩
    rw [List.idxOf_eq_length h]; simp
/-! ### What tables tell of nodes -/
theorem tab_mem {id v : Nat} {t : List Int} (hv : v ≤ ar.length) (h : TabV ar l id v t) {a : Nat → Nat} (ha : Asg ar a) : S l a id ∈ t := by
  rw [h.val a ha]
  have := idx_lt ha (ar.length - v) v (by omega)
  rw [List.getD_eq_getElem?_getD, List.getElem?_eq_getElem (by rw [h.len]; exact this), Option.getD_some]
  exact List.getElem_mem _
theorem const_leaf (g : GoodL ar l) (h1 : ∀ x ∈ ar, 1 ≤ x) {id v : Nat} {t : List Int} (hv : v ≤ ar.length) (h : TabV ar l id v t) {c : Int} (hc : ∀ y ∈ t, y = c) : l.getD id ⟨0, [], 0⟩ = leafN c := by
  have hi := h.lt
  rw [getD_at hi]
  have hS : ∀ a, Asg ar a → S l a id = c := fun a ha => hc _ (tab_mem hv h ha)
  have hn : l[id].var < 0 := by
    refine Decidable.byContradiction fun hn => ?_
    have hv0 : 0 ≤ l[id].var := by omega
    have hvt : ((l[id].var.toNat : Nat) : Int) = l[id].var := by omega
    have a0 := asg0 h1
    have hlt := (g.var id hi hv0).1
    obtain ⟨t0, e0, ht0, _⟩ := kid_at g hi hv0 (k := 0) (by
      have := h1 (ar[l[id].var.toNat]) (List.getElem_mem (by omega))
      rw [List.getD_eq_getElem?_getD, List.getElem?_eq_getElem (by omega), Option.getD_some]; omega)
    have all : ∀ k : Nat, (k : Int) < ar.getD l[id].var.toNat 0 → ∀ a, Asg ar a → S l a (l[id].kids.getD k 0).toNat = c := fun k hk a ha => by
      rw [← S_upd g ha hi (v := l[id].var.toNat) (k := k) hvt.symm hk]
      exact hS _ (ha.upd hk)
    refine not_one g h1 hi (j := t0) hv0 fun k hk => ?_
    obtain ⟨tk, ek, htk, _⟩ := kid_at g hi hv0 hk
    rw [ek]
    congr 1
    refine canon g h1 _ tk t0 (by omega) (by omega) (Nat.lt_succ_self _) fun a ha => ?_
    have x1 := all k hk a ha
    have x2 := all 0 (by
      have := h1 (ar[l[id].var.toNat]) (List.getElem_mem (by omega))
      rw [List.getD_eq_getElem?_getD, List.getElem?_eq_getElem (by omega), Option.getD_some]; omega) a ha
    rw [ek, Int.toNat_natCast] at x1
    rw [e0, Int.toNat_natCast] at x2
    rw [x1, x2]
  have hl : l[id].leaf = c := by rw [← hS _ (asg0 h1), S_leaf hi hn]
  rcases g.ok _ (List.getElem_mem hi) with ⟨b1, b2, _⟩ | ⟨b1, _⟩
  · generalize l[id] = x at *
    obtain ⟨xv, xk, xl⟩ := x
    simp only at b1 b2 hl
    rw [b1, b2, hl]; rfl
  · omega
theorem tab_upd {id v : Nat} {t : List Int} (hv : v < ar.length) (h : TabV ar l id v t) {a : Nat → Nat} (ha : Asg ar a) {k : Nat} (hk : (k : Int) < ar.getD v 0) : S l (upd a v k) id = (part t (prodF (ar.drop (v + 1))) k).getD (idxF (ar.drop (v + 1)) (v + 1) a) 0 := by
  have hn := idx_lt ha (ar.length - (v + 1)) (v + 1) (by omega)
  rw [h.val _ (ha.upd hk), part_get hn, idx_step hv, idx_upd (ar.length - (v + 1)) (v + 1) (by omega) (by omega)]
  have : upd a v k v = k := by unfold upd; rw [if_pos rfl]
  rw [this]
theorem part_len' (h1 : ∀ x ∈ ar, 1 ≤ x) {v : Nat} {t : List Int} (hv : v < ar.length) (ht : t.length = prodF (ar.drop v)) {k : Nat} (hk : (k : Int) < ar.getD v 0) : (part t (prodF (ar.drop (v + 1))) k).length = prodF (ar.drop (v + 1)) := by
  rw [prod_step hv] at ht
  exact part_len ht (by omega)
theorem tab_kid (g : GoodL ar l) (h1 : ∀ x ∈ ar, 1 ≤ x) {id v : Nat} {t : List Int} (hv : v < ar.length) (h : TabV ar l id v t) (hi : id < l.length) (hvar : l[id].var = v) {k : Nat} (hk : (k : Int) < ar.getD v 0) : TabV ar l (l[id].kids.getD k 0).toNat (v + 1) (part t (prodF (ar.drop (v + 1))) k) := by
  have hvt : l[id].var.toNat = v := by omega
  obtain ⟨q, e, hq, h2⟩ := kid_at g hi (by omega) (k := k) (by rw [hvt]; exact hk)
  refine ⟨part_len' h1 hv h.len hk, by rw [e]; simp; omega, fun hh => ?_, fun a ha => ?_⟩
  · have := h2 (by omega)
    have e2 : (l[id].kids.getD k 0).toNat = q := by rw [e]; simp
    have : ∀ (y : Nat) (hy : y < l.length), y = q → (((v + 1 : Nat)) : Int) ≤ abv ar.length l[y] := fun y hy ey => by subst ey; omega
    exact this _ hh e2
  · rw [← S_upd g ha hi hvar hk]
    exact tab_upd hv h ha hk
/-- Where all parts are the same, the variable does not matter. -/
theorem free_tab (g : GoodL ar l) (h1 : ∀ x ∈ ar, 1 ≤ x) {id v : Nat} {t : List Int} (hv : v < ar.length) (h : TabV ar l id v t) (hf : ∀ k : Nat, (k : Int) < ar.getD v 0 → part t (prodF (ar.drop (v + 1))) k = part t (prodF (ar.drop (v + 1))) 0) : TabV ar l id (v + 1) (part t (prodF (ar.drop (v + 1))) 0) := by
  have hi := h.lt
  have hav : 1 ≤ ar.getD v 0 := by
    rw [List.getD_eq_getElem?_getD, List.getElem?_eq_getElem hv, Option.getD_some]; exact h1 _ (List.getElem_mem hv)
  have hne : l[id].var ≠ v := fun hvar => by
    have hvt : l[id].var.toNat = v := by omega
    refine not_one g h1 hi (j := (l[id].kids.getD 0 0).toNat) (by omega) fun k hk => ?_
    rw [hvt] at hk
    obtain ⟨q, e, hq, _⟩ := kid_at g hi (by omega) (k := k) (by rw [hvt]; exact hk)
    have t1 := tab_kid g h1 hv h hi hvar hk
    have t0 := tab_kid g h1 hv h hi hvar (k := 0) (by omega)
    rw [hf k hk] at t1
    have := tab_same g h1 t1 t0
    rw [← this, e]; simp
  have htop := h.top hi
  have hlt : (v : Int) < abv ar.length l[id] := by
    unfold abv at htop ⊢
    split
    · rename_i hh; rw [if_pos hh] at htop; omega
    · omega
  refine ⟨part_len' h1 hv h.len (by omega), hi, fun _ => by omega, fun a ha => ?_⟩
  have hk := ha v hv
  rw [← hf (a v) hk, ← tab_upd hv h ha hk, S_indep g ha hk id hi hlt]
/-- Where not all parts are the same, the node is of this variable. -/
theorem node_tab (g : GoodL ar l) (h1 : ∀ x ∈ ar, 1 ≤ x) {id v : Nat} {t : List Int} (hv : v < ar.length) (h : TabV ar l id v t) (hi : id < l.length) (hf : ¬ ∀ k : Nat, (k : Int) < ar.getD v 0 → part t (prodF (ar.drop (v + 1))) k = part t (prodF (ar.drop (v + 1))) 0) : l[id].var = v := by
  refine Decidable.byContradiction fun hne => hf fun k hk => ?_
  have htop := h.top hi
  have hav : 1 ≤ ar.getD v 0 := by
    rw [List.getD_eq_getElem?_getD, List.getElem?_eq_getElem hv, Option.getD_some]; exact h1 _ (List.getElem_mem hv)
  have hlt : (v : Int) < abv ar.length l[id] := by
    unfold abv at htop ⊢
    split
    · rename_i hh; rw [if_pos hh] at htop; omega
    · omega
  have e1 := part_len' h1 hv h.len hk
  have e0 := part_len' h1 hv h.len (k := 0) (by omega)
  refine list_eq_getD (e1.trans e0.symm) fun q hq => ?_
  obtain ⟨a, ha, e⟩ := idx_surj h1 (ar.length - (v + 1)) (v + 1) q (by omega) (by rw [← e1]; exact hq)
  rw [← e, ← tab_upd hv h ha hk, ← tab_upd hv h ha (k := 0) (by omega), S_indep g ha hk id hi hlt, S_indep g ha (by omega) id hi hlt]
end
end Go.Ab

/- What the interpreter does, function by function. -/
set_option maxRecDepth 100000
set_option linter.unusedVariables false
namespace Go.Ab
open Go.Proofs.Tryd
/-! ### sortilege/sortilegeref23.Right -/
/-! ### sortilege/sortilegeref23.Table -/
/-! ### sortilege/sortilegeref23.Eval -/
/-! ### sortilege/sortilegeref23.Restrict -/
def O42_3 (x9 : AV) (m : Mem) : St := ⟨[.any, .any, .any, .any, .any, .any, .any, .any, .any, x9, .any, .any, .any, .any, .any, .any, .any, .any, .any, .any, .any, .any, .any, .any, .any, .any, .any, .any, .any, .any, .any, .any, .any, .any], m⟩
noncomputable def L42_3 (x0 x1 x2 x3 x9 x13 x14 x15 : AV) (m : Mem) (K : Ex → St → Option (AV × Mem)) : Option (AV × Mem) := loopW (execW cfg 42 (AP cfg) (AC cfg) (c1 (c1 (c2 (c1 (c2 (c2 (bodyOf f42)))))))) (cfg.mask 42 (some 3)) ⟨[x0, x1, x2, x3, .any, .any, .any, .any, .any, x9, .any, .any, .any, x13, x14, x15, .any, .any, .any, .any, .any, .any, .any, .any, .any, .any, .any, .any, .any, .any, .any, .any, .any, .any], m⟩ K
noncomputable abbrev K42_3_0 (K : Ex → St → Option (AV × Mem)) : Ex → St → Option (AV × Mem) := seqK (fun st => execW cfg 42 (AP cfg) (AC cfg) (c2 (c2 (c2 (bodyOf f42)))) st K) K
noncomputable abbrev K42_3_1 (K : Ex → St → Option (AV × Mem)) : Ex → St → Option (AV × Mem) := blockK 0 (K42_3_0 K)
noncomputable abbrev K42_3 (K : Ex → St → Option (AV × Mem)) : Ex → St → Option (AV × Mem) := (K42_3_1 K)
theorem T42 (a0 a1 a2 a3 : AV) (m : Mem) : AC cfg 42 [a0, a1, a2, a3] m =
  (AC cfg 35 [a0] m).bind fun r1 =>
  (lenA false r1.1).bind fun v2 =>
  L42_3 a0 a1 a2 a3 (.lst none true .full []) r1.1 v2 (.int .i64 0) r1.2 (K42_3 (finK cfg.P f42.results.toList)) :=
(AC_eq cfg 42 [a0, a1, a2, a3] m (fn := f42) (c := bodyOf f42) at42 rfl).trans (by kernel_rfl)
theorem L42_3_eq (x0 x1 x2 x3 x9 x13 x14 x15 : AV) (m : Mem) (K : Ex → St → Option (AV × Mem)) : L42_3 x0 x1 x2 x3 x9 x13 x14 x15 m K =
  (binA .other .lss x15 x14).bind fun v1 =>
  ifA v1 (
  (indexAddrA none x13 x15).bind fun v2 =>
  (loadA none m v2).bind fun v3 =>
  (indexAddrA none v3 x2).bind fun v4 =>
  (storeA none m v4 x3).bind fun m5 =>
  (pcall (AP cfg) none m5 43 [x0, v3]).bind fun r6 =>
  (indexAddrA none x1 r6.1).bind fun v7 =>
  (loadA none r6.2 v7).bind fun v8 =>
  (buildSliceA none [v8]).bind fun v9 =>
  (appA none false 3 none 8 r6.2 x9 v9).bind fun r10 =>
  (binA .other .add x15 (.int .i64 1)).bind fun v11 =>
  L42_3 x0 x1 x2 x3 r10.1 x13 x14 v11 r10.2 K) (
  K (.exit 0) (O42_3 x9 m)) :=
(loopW_eq (execW_lin _) _ _ _).trans (by kernel_rfl)
theorem K42_3_x0 (x9 : AV) (m : Mem) : K42_3 (finK cfg.P f42.results.toList) (.exit 0) (O42_3 x9 m) =
  some (x9, m) := by kernel_rfl
/-! ### sortilege/sortilegelaw23.listed -/
def O39_3 (x3 : AV) (m : Mem) : St := ⟨[.any, .any, .any, x3, .any, .any, .any, .any, .any, .any, .any, .any, .any, .any, .any, .any, .any, .any], m⟩
noncomputable def L39_3 (x3 x6 x7 x8 : AV) (m : Mem) (K : Ex → St → Option (AV × Mem)) : Option (AV × Mem) := loopW (execW cfg 39 (AP cfg) (AC cfg) (c1 (c1 (c2 (c1 (c2 (c2 (bodyOf f39)))))))) (cfg.mask 39 (some 3)) ⟨[.any, .any, .any, x3, .any, .any, x6, x7, x8, .any, .any, .any, .any, .any, .any, .any, .any, .any], m⟩ K
noncomputable abbrev K39_3_0 (K : Ex → St → Option (AV × Mem)) : Ex → St → Option (AV × Mem) := seqK (fun st => execW cfg 39 (AP cfg) (AC cfg) (c2 (c2 (c2 (bodyOf f39)))) st K) K
noncomputable abbrev K39_3_1 (K : Ex → St → Option (AV × Mem)) : Ex → St → Option (AV × Mem) := blockK 0 (K39_3_0 K)
noncomputable abbrev K39_3 (K : Ex → St → Option (AV × Mem)) : Ex → St → Option (AV × Mem) := (K39_3_1 K)
theorem T39 (a0 : AV) (m : Mem) : AC cfg 39 [a0] m =
  (lenA false a0).bind fun v1 =>
  L39_3 (.lst none true .full []) a0 v1 (.int .i64 0) m (K39_3 (finK cfg.P f39.results.toList)) :=
(AC_eq cfg 39 [a0] m (fn := f39) (c := bodyOf f39) at39 rfl).trans (by kernel_rfl)
theorem L39_3_eq (x3 x6 x7 x8 : AV) (m : Mem) (K : Ex → St → Option (AV × Mem)) : L39_3 x3 x6 x7 x8 m K =
  (binA .other .lss x8 x7).bind fun v1 =>
  ifA v1 (
  (indexAddrA (some 3) x6 x8).bind fun v2 =>
  (loadA (some 3) m v2).bind fun v3 =>
  (storeA (some 3) (newAt none m (.obj true [(.int .i64 0), (.lst none true .full []), (.int .i64 0)])).2 (.ptr (newAt none m .resv).1 0) v3).bind fun m4 =>
  (loadA (some 3) m4 (.ptr (newAt none m .resv).1 0)).bind fun v5 =>
  (buildSliceA (some 3) [v5]).bind fun v6 =>
  (appA none false 39 (some 3) 40 m4 x3 v6).bind fun r7 =>
  (binA .other .add x8 (.int .i64 1)).bind fun v8 =>
  L39_3 r7.1 x6 x7 v8 r7.2 K) (
  K (.exit 0) (O39_3 x3 m)) :=
(loopW_eq (execW_lin _) _ _ _).trans (by kernel_rfl)
theorem K39_3_x0 (x3 : AV) (m : Mem) : K39_3 (finK cfg.P f39.results.toList) (.exit 0) (O39_3 x3 m) =
  some (x3, m) := by kernel_rfl
/-! ### sortilege/sortilegelaw23.nodes -/
end Go.Ab

/- Small functions of the laws and the reference; Eval; All: by value. -/
set_option linter.unusedVariables false
set_option linter.unusedSimpArgs false
set_option linter.unusedSectionVars false
set_option maxRecDepth 100000
namespace Go.Ab
open Go.Proofs Go.Proofs.Tryd

theorem W79 {z1 z2 : Bool} {o1 o2 : Own} {k1 k2 : List Int} (hl : k1.length = k2.length) (hl2 : k1.length ≤ 100000) (m : Mem) : ∀ j i : Nat, i + j = k1.length →
    L79_4 (IA z1 o1 k1) (IA z2 o2 k2) (.int .i64 k1.length) (.int .i64 i) m (K79_4 (finK cfg.P f79.results.toList)) = some (.bool (decide (k1.drop i = k2.drop i)), m)
  | 0, i, h => by
    rw [L79_4_eq, binA_lss, Option.bind_some, ifA_dec, if_neg (by omega), List.drop_eq_nil_of_le (by omega), List.drop_eq_nil_of_le (by omega), K79_4_x0]; rfl
  | j + 1, i, h => by
    have hi : i < k1.length := by omega
    have hi2 : i < k2.length := by omega
    have ih := W79 (z1 := z1) (z2 := z2) (o1 := o1) (o2 := o2) hl hl2 m j (i + 1) (by omega)
    rw [L79_4_eq, binA_lss, Option.bind_some, ifA_dec, if_pos (by omega), idx_IA hi, Option.bind_some, loadA_one, Option.bind_some, idx_IA hi2, Option.bind_some, loadA_one, Option.bind_some, binA_neq, Option.bind_some, ifA_dec, List.drop_eq_getElem_cons hi, List.drop_eq_getElem_cons hi2]
    by_cases he : k1[i] = k2[i]
    · rw [if_neg (by simpa using he), i_add1 (by omega), Option.bind_some, ih]
      congr 3
      exact decide_eq_decide.2 (by rw [he]; exact ⟨fun e => by rw [e], fun e => (List.cons.inj e).2⟩)
    · rw [if_pos he, K79_4_ret]
      congr 3
      exact (decide_eq_false (fun e => he (List.cons.inj e).1)).symm
theorem V79 (z1 z2 : Bool) (o1 o2 : Own) (k1 k2 : List Int) (hl2 : k1.length ≤ 100000) : AP cfg 79 [IA z1 o1 k1, IA z2 o2 k2] = some (.bool (decide (k1 = k2))) := by
  refine AP_of (m := []) (v := .bool (decide (k1 = k2))) (l := []) ?_ rfl rfl
  rw [T79, len_IA, Option.bind_some, len_IA, Option.bind_some, binA_neq, Option.bind_some, ifA_dec]
  by_cases hl : k1.length = k2.length
  · rw [if_neg (by omega), Option.bind_some, show (AV.int .i64 0) = .int .i64 ((0 : Nat) : Int) from rfl, W79 hl hl2 [] k1.length 0 (by omega), List.drop_zero, List.drop_zero]
  · rw [if_pos (by omega)]
    congr 3
    exact (decide_eq_false (fun e => hl (by rw [e]))).symm
theorem pc79 (z1 z2 : Bool) (o1 o2 : Own) (k1 k2 : List Int) (hl2 : k1.length ≤ 100000) (m : Mem) : pcall (AP cfg) none m 79 [IA z1 o1 k1, IA z2 o2 k2] = some (.bool (decide (k1 = k2)), m) := by
  rw [pcall2 (fz_IA z1 o1 k1) (fz_IA z2 o2 k2), V79 z1 z2 _ _ k1 k2 hl2]; rfl
theorem W78 (z : Bool) (o : Own) (k0 : Int) (ks : List Int) (hl : (k0 :: ks).length ≤ 1000) (m : Mem) : ∀ j i : Nat, i + j = (k0 :: ks).length →
    L78_2 (IA z o (k0 :: ks)) (IA z o (k0 :: ks)) (.int .i64 (k0 :: ks).length) (.int .i64 i) m (K78_2 (finK cfg.P f78.results.toList)) = some (.bool (((k0 :: ks).drop i).all fun k => k == k0), m)
  | 0, i, h => by
    rw [L78_2_eq, binA_lss, Option.bind_some, ifA_dec, if_neg (by omega), List.drop_eq_nil_of_le (by omega), K78_2_x0]; rfl
  | j + 1, i, h => by
    have hi : i < (k0 :: ks).length := by omega
    rw [L78_2_eq, binA_lss, Option.bind_some, ifA_dec, if_pos (by omega), idx_IA hi, Option.bind_some, loadA_one, Option.bind_some, idx_IA0 (by simp), Option.bind_some, loadA_one, Option.bind_some, binA_neq, Option.bind_some, ifA_dec, List.drop_eq_getElem_cons hi, List.all_cons]
    by_cases he : (k0 :: ks)[i] = k0
    · rw [if_neg (by simpa using he), i_add1 (by omega), Option.bind_some, W78 z o k0 ks hl m j (i + 1) (by omega), show ((k0 :: ks)[i] == k0) = true by simpa using he, Bool.true_and]
    · rw [if_pos (by simpa using he), K78_2_ret, show ((k0 :: ks)[i] == k0) = false by simpa using he, Bool.false_and]
theorem V78 (z : Bool) (o : Own) (ks : List Int) (hne : ks ≠ []) (hl : ks.length ≤ 1000) : AP cfg 78 [IA z o ks] = some (.bool (ks.all fun k => k == ks.headD 0)) := by
  obtain ⟨k0, ks, rfl⟩ := List.exists_cons_of_ne_nil hne
  refine AP_of (m := []) (v := .bool ((k0 :: ks).all fun k => k == k0)) (l := []) ?_ rfl rfl
  rw [T78, len_IA, Option.bind_some, show (AV.int .i64 0) = .int .i64 ((0 : Nat) : Int) from rfl, W78 z o k0 ks hl [] (k0 :: ks).length 0 (by omega), List.drop_zero]
theorem pc78 (z : Bool) (o : Own) (ks : List Int) (hne : ks ≠ []) (hl : ks.length ≤ 1000) (m : Mem) : pcall (AP cfg) none m 78 [IA z o ks] = some (.bool (ks.all fun k => k == ks.headD 0), m) := by
  rw [pcall1 (fz_IA z o ks), V78 z _ ks hne hl]; rfl
/-! ### Assignment, All -/
theorem idx_cong {a b : Nat → Nat} : ∀ (r : List Int) (v : Nat), (∀ w, v ≤ w → a w = b w) → idxF r v a = idxF r v b
  | [], _, _ => rfl
  | n :: r, v, h => by rw [idxF, idxF, h v (Nat.le_refl _), idx_cong r (v + 1) fun w hw => h w (by omega)]
/-- The assignment that a row tells. -/
def asgOf (cs : List Int) : Nat → Nat := fun v => (cs.getD v 0).toNat
theorem mapF_int (m : Mem) (k : Nat) : ∀ ds : List Int, mapF (frz m (k + 1)) (ds.map (AV.int .i64)) = some (ds.map (AV.int .i64), [])
  | [] => rfl
  | d :: ds => by
    have : frz m (k + 1) (AV.int .i64 d) = some (AV.int .i64 d, []) := rfl
    simp [mapF, this, mapF_int m k ds]
theorem plL_int : ∀ ds : List Int, plL (ds.map (AV.int .i64)) = true
  | [] => rfl
  | d :: ds => by
    have : pl (AV.int .i64 d) = true := rfl
    simp [plL, this, plL_int ds]
theorem frz_int {m : Mem} {nm : Nat} {ds : List Int} (h : m.get nm = some (.obj false (ds.map (AV.int .i64)))) : frz m fuelF (.arr nm 0 ds.length none) = some (IA false .no ds, [nm]) := by
  have h1 : ((ds.map (AV.int .i64)).all atomOk) = true := by simp [List.all_map, atomOk]
  have hg : m.obj? nm = some (false, ds.map (AV.int .i64)) := by rw [obj_objE, h]; rfl
  show (m.obj? nm).bind _ = _
  rw [hg]
  simp only [Option.bind_some, Sh.size, List.length_map, Nat.zero_add, Nat.mul_one, Nat.le_refl, decide_true, Bool.not_false, Bool.and_self, if_true, List.drop_zero, List.take_of_length_le (by simp : (ds.map (AV.int .i64)).length ≤ ds.length)]
  rw [mapF_int]
  simp only [Option.bind_some, h1, plL_int, Bool.and_self, if_true, grp]
  rw [List.take_of_length_le (by simp)]
theorem st_int {m : Mem} {nm i : Nat} {ds : List Int} {y : Int} (h : m.get nm = some (.obj false (ds.map (AV.int .i64)))) (hi : i < ds.length) : storeA none m (.ptr nm i) (.int .i64 y) = some (m.set nm (some (.obj false ((ds.set i y).map (AV.int .i64))))) := by
  have hg : m.obj? nm = some (false, ds.map (AV.int .i64)) := by rw [obj_objE, h]; rfl
  have h1 : i + 1 ≤ ds.length := hi
  simp only [storeA, hg, Option.bind_some, Sh.size, List.length_map, h1, if_true, shOk, atomOk, AV.cells]
  congr 4
  simp only [putAt, List.length_cons, List.length_nil]
  rw [List.map_set, List.set_eq_take_append_cons_drop]
  simp [hi, List.map_take, List.map_drop]
theorem set_get {m : Mem} {nm : Nat} {e : Ent} (h : m.get nm = some e) : m.set nm (some e) = m := by
  have hlt := get_lt h
  apply List.ext_getElem?
  intro k
  rw [List.getElem?_set]
  split
  · rename_i hk
    subst hk
    first | rw [if_pos hlt] | skip
    unfold Mem.get at h
    cases hq : m[nm]? with
    | none => rw [hq] at h; cases h
    | some x => rw [hq] at h; simp only [Option.bind_some, id] at h; rw [h]
  · rfl
theorem W64 {z : Bool} {o : Own} {ar : List Int} (h1 : ∀ x ∈ ar, 1 ≤ x ∧ x ≤ 64) (hal : ar.length ≤ 16) {i0 nm : Nat} (hi0 : i0 ≤ 1000000) : ∀ (j : Nat), j ≤ ar.length → ∀ (q : Nat) (cs : List Int) (m : Mem), m.get nm = some (.obj false (cs.map (AV.int .i64))) → cs.length = ar.length → (∀ v, j ≤ v → v < ar.length → 0 ≤ cs.getD v 0 ∧ cs.getD v 0 < ar.getD v 0) → q ≤ i0 →
    i0 = q * prodF (ar.drop j) + idxF (ar.drop j) j (asgOf cs) → ∃ (cs' : List Int) (q' : Nat), L64_3 (IA z o ar) (.int .i64 q) (.arr nm 0 ar.length none) (.int .i64 ((j : Int) - 1)) m (K64_3 (finK cfg.P f64.results.toList)) = some (.arr nm 0 ar.length none, m.set nm (some (.obj false (cs'.map (AV.int .i64))))) ∧ cs'.length = ar.length ∧
      (∀ v, v < ar.length → 0 ≤ cs'.getD v 0 ∧ cs'.getD v 0 < ar.getD v 0) ∧ i0 = q' * prodF ar + idxF ar 0 (asgOf cs')
  | 0, _, q, cs, m, hg, hc, hb, hq, he => by
    refine ⟨cs, q, ?_, hc, fun v hv => hb v (Nat.zero_le _) hv, he⟩
    rw [set_get hg, L64_3_eq, binA_geq, Option.bind_some, ifA_dec, if_neg (by omega), K64_3_x0]
  | j + 1, hj, q, cs, m, hg, hc, hb, hq, he => by
    have hv : j < ar.length := by omega
    have hab := h1 _ (List.getElem_mem hv)
    obtain ⟨a, ha⟩ := Int.eq_ofNat_of_zero_le (by omega : 0 ≤ ar[j])
    have hget : ar.getD j 0 = (a : Int) := by rw [List.getD_eq_getElem?_getD, List.getElem?_eq_getElem hv, Option.getD_some, ha]
    have hix : indexAddrA none (IA z o ar) (.int .i64 j) = some (.vptr [.int .i64 a]) := by rw [idx_IA hv, ha]
    have hqa := Nat.div_le_self q a
    have hlt := Nat.mod_lt q (show a > 0 by omega)
    have hl := get_lt hg
    obtain ⟨cs', q', e, k⟩ := W64 (z := z) (o := o) h1 hal hi0 (nm := nm) j (by omega) (q / a) (cs.set j (q % a : Nat)) (m.set nm (some (.obj false ((cs.set j (q % a : Nat)).map (AV.int .i64))))) (g_seq rfl hl) (by rw [List.length_set]; exact hc) (fun v hv1 hv2 => by
      by_cases hvj : v = j
      · subst hvj
        rw [List.getD_eq_getElem?_getD, List.getElem?_set_self (by omega), Option.getD_some, hget]
        omega
      · rw [List.getD_eq_getElem?_getD, List.getElem?_set_ne (by omega), ← List.getD_eq_getElem?_getD]
        exact hb v (by omega) hv2) (by omega) (by
      rw [prod_step hv, idx_step hv, hget, idx_cong (a := asgOf (cs.set j (q % a : Nat))) (b := asgOf cs) (ar.drop (j + 1)) (j + 1) (fun w hw => by
        unfold asgOf
        rw [List.getD_eq_getElem?_getD, List.getElem?_set_ne (by omega), ← List.getD_eq_getElem?_getD])]
      have e1 : asgOf (cs.set j (q % a : Nat)) j = q % a := by
        unfold asgOf
        rw [List.getD_eq_getElem?_getD, List.getElem?_set_self (by omega), Option.getD_some, Int.toNat_natCast]
      have e2 : (a : Int).toNat = a := Int.toNat_natCast a
      rw [e1, e2, he]
      generalize prodF (ar.drop (j + 1)) = P
      have := Nat.div_add_mod q a
      have e3 : q * P = q / a * (a * P) + q % a * P := by
        rw [← Nat.mul_assoc, ← Nat.add_mul, Nat.mul_comm (q / a) a, this]
      omega)
    refine ⟨cs', q', ?_, k⟩
    have ej : ((j + 1 : Nat) : Int) - 1 = j := by omega
    rw [ej, L64_3_eq, binA_geq, Option.bind_some, ifA_dec, if_pos (by omega), hix, Option.bind_some, loadA_one, Option.bind_some, n_rem (by omega), Option.bind_some, index_arr hv, Option.bind_some, st_int hg (by omega), Option.bind_some, Option.bind_some, loadA_one, Option.bind_some, n_quo (by omega) (by omega), Option.bind_some, i_sub1z (by omega), Option.bind_some]
    rw [List.set_set] at e
    exact e
/-- A row is the assignment of a number. -/
structure Asn (ar : List Int) (i : Nat) (cs : List Int) : Prop where
  len : cs.length = ar.length
  bd : ∀ v, v < ar.length → 0 ≤ cs.getD v 0 ∧ cs.getD v 0 < ar.getD v 0
  idx : idxF ar 0 (asgOf cs) = i
theorem Asn.asg {ar : List Int} {i : Nat} {cs : List Int} (h : Asn ar i cs) : Asg ar (asgOf cs) := fun v hv => by
  have := h.bd v hv
  unfold asgOf; omega
theorem C64 (z : Bool) (o : Own) (ar : List Int) (h1 : ∀ x ∈ ar, 1 ≤ x ∧ x ≤ 64) (hal : ar.length ≤ 16) {i : Nat} (hi : i < prodF ar) (hi2 : i ≤ 1000000) (m : Mem) : ∃ cs, AC cfg 64 [IA z o ar, .int .i64 i] m = some (.arr m.length 0 ar.length none, m ++ [some (.obj false (cs.map (AV.int .i64)))]) ∧ Asn ar i cs := by
  have hmk : makeA none 3 none (.int .i64 0) 8 m (.int .i64 ar.length) (.int .i64 ar.length) = some (.arr m.length 0 ar.length none, m ++ [some (Ent.obj false ((List.replicate ar.length (0 : Int)).map (AV.int .i64)))]) := by
    have h3 : (ar.length : Int) * 8 ≤ 281474976710656 := by omega
    have h4 : (ar.length : Int) ≤ 9223372036854775807 := by omega
    have h5 : (0 : Int) ≤ ar.length := by omega
    simp only [makeA, newAt, zeros, Int.le_refl, if_true, Int.toNat_natCast, List.map_replicate]
    rw [if_pos ⟨h5, trivial, h3, h4⟩]
  obtain ⟨cs, q, e, hc, hb, he⟩ := W64 (z := z) (o := o) h1 hal hi2 (nm := m.length) ar.length (Nat.le_refl _) i (List.replicate ar.length (0 : Int)) (m ++ [some (Ent.obj false ((List.replicate ar.length (0 : Int)).map (AV.int .i64)))]) (g_eq rfl) (by simp) (fun v h1 h2 => by omega) (Nat.le_refl _) (by rw [List.drop_length]; simp [prodF, idxF])
  have asn : Asn ar i cs := by
    refine ⟨hc, hb, ?_⟩
    have hq : q = 0 := by
      refine Nat.eq_zero_of_not_pos fun hq => ?_
      have : 1 * prodF ar ≤ q * prodF ar := Nat.mul_le_mul_right _ hq
      omega
    rw [hq] at he
    omega
  refine ⟨cs, ?_, asn⟩
  have e2 : (m ++ [some (Ent.obj false ((List.replicate ar.length (0 : Int)).map (AV.int .i64)))]).set m.length (some (.obj false (cs.map (AV.int .i64)))) = m ++ [some (.obj false (cs.map (AV.int .i64)))] := by
    rw [List.set_append_right _ _ (Nat.le_refl _), Nat.sub_self]; rfl
  rw [e2] at e
  rw [T64, len_IA, Option.bind_some, hmk, Option.bind_some, Option.bind_some, i_sub1z (by omega), Option.bind_some]
  exact e
/-- Rows that may be written, in a row that may be written. -/
structure AL (n : Nat) (m0 m : Mem) (x : AV) (nms : List Nat) (css : List (List Int)) : Prop where
  len : nms.length = css.length
  row : ∀ k (h1 : k < nms.length) (h2 : k < css.length), m.get nms[k] = some (.obj false (css[k].map (AV.int .i64))) ∧ css[k].length = n
  nd : nms.Nodup
  lo : ∀ a ∈ nms, m0.length ≤ a
  kp : m0.length ≤ m.length ∧ ∀ k, k < m0.length → m.get k = m0.get k
  x : (x = .lst none true .full [] ∧ nms = []) ∨ ∃ t, x = .arr t 0 nms.length none ∧ 0 < nms.length ∧ m.get t = some (.obj false (nms.map fun a => .arr a 0 n none)) ∧ m0.length ≤ t ∧ t ∉ nms
theorem AL.lt {n : Nat} {m0 m : Mem} {x : AV} {nms : List Nat} {css : List (List Int)} (h : AL n m0 m x nms css) : ∀ a ∈ nms, a < m.length := fun a ha => by
  obtain ⟨k, hk, e⟩ := List.getElem_of_mem ha
  have hl := h.len
  have := (h.row k hk (by omega)).1
  rw [e] at this
  exact get_lt this
theorem al_app {n : Nat} {m0 m : Mem} {x : AV} {nms : List Nat} {css : List (List Int)} (h : AL n m0 m x nms css) {cs : List Int} (hc : cs.length = n) (hl : css.length ≤ 1000) :
    ∃ x' m', appA none true 22 none 24 (m ++ [some (Ent.obj false (cs.map (AV.int .i64)))]) x (.vec 1 none [.arr m.length 0 n none]) = some (x', m') ∧ AL n m0 m' x' (nms ++ [m.length]) (css ++ [cs]) := by
  have hlen := h.len
  have hlt := h.lt
  have hY : ∀ M : Mem, rowY M none (.vec 1 none [.arr m.length 0 n none]) = some (1, [.arr m.length 0 n none]) := fun M => rfl
  have nd2 : (nms ++ [m.length]).Nodup := by
    rw [List.nodup_append]
    exact ⟨h.nd, by simp, fun a ha b hb => by
      obtain rfl : b = m.length := by simpa using hb
      have := hlt a ha; omega⟩
  have rows : ∀ (m' : Mem), (∀ k, k < m.length + 1 → (∀ t, x = .arr t 0 nms.length none → k ≠ t) → m'.get k = Mem.get (m ++ [some (Ent.obj false (cs.map (AV.int .i64)))]) k) → ∀ k (h1 : k < (nms ++ [m.length]).length) (h2 : k < (css ++ [cs]).length), m'.get (nms ++ [m.length])[k] = some (.obj false ((css ++ [cs])[k].map (AV.int .i64))) ∧ (css ++ [cs])[k].length = n := by
    intro m' hm' k h1 h2
    by_cases hk : k < nms.length
    · rw [List.getElem_append_left hk, List.getElem_append_left (by omega)]
      have hmem := List.getElem_mem hk
      have hl2 := hlt _ hmem
      rw [hm' _ (by omega) (fun t ht e => by
        rcases h.x with ⟨rfl, _⟩ | ⟨t', rfl, _, _, _, hn⟩
        · cases ht
        · cases ht; exact hn (e ▸ hmem)), g_lt hl2]
      exact h.row k hk (by omega)
    · have hk1 : k = nms.length := by simp at h1; omega
      subst hk1
      have e1 : (nms ++ [m.length])[nms.length]'h1 = m.length := by simp
      have e2 : (css ++ [cs])[nms.length]'h2 = cs := by simp [hlen]
      rw [e1, e2, hm' _ (by omega) (fun t ht e => by
        rcases h.x with ⟨rfl, _⟩ | ⟨t', rfl, _, hg, _, hn⟩
        · cases ht
        · cases ht; have := get_lt hg; omega), g_eq rfl]
      exact ⟨rfl, hc⟩
  have lo2 : ∀ a ∈ nms ++ [m.length], m0.length ≤ a := fun a ha => by
    rcases List.mem_append.1 ha with ha | ha
    · exact h.lo a ha
    · obtain rfl : a = m.length := by simpa using ha
      exact h.kp.1
  have hroom : ∀ k : Nat, k ≤ 1000 → (k + 1) * 24 ≤ roomA := fun k hk => by unfold roomA; omega
  rcases h.x with ⟨rfl, rfl⟩ | ⟨t, rfl, hpos, hg, htl, htn⟩
  · have hX : rowX (m ++ [some (Ent.obj false (cs.map (AV.int .i64)))]) none (.lst none true .full []) = some (0, [], m ++ [some (.obj false (cs.map (AV.int .i64)))]) := rfl
    have ha : appA none true 22 none 24 (m ++ [some (Ent.obj false (cs.map (AV.int .i64)))]) (.lst none true .full []) (.vec 1 none [.arr m.length 0 n none]) = some (.arr (m ++ [some (Ent.obj false (cs.map (AV.int .i64)))]).length 0 1 none, (m ++ [some (Ent.obj false (cs.map (AV.int .i64)))]) ++ [some (.obj false [.arr m.length 0 n none])]) := by
      simp only [appA, appR, hY, hX, Option.bind_some]
      rfl
    refine ⟨_, _, ha, ?_, rows _ (fun k hk _ => g_lt (by simpa using hk)), nd2, lo2, ?_, .inr ⟨(m ++ [some (Ent.obj false (cs.map (AV.int .i64)))]).length, by simp, by simp, by rw [g_eq rfl]; rfl, by have := h.kp.1; simp; omega, by simp⟩⟩
    · simp only [List.length_append, List.length_cons, List.length_nil] at hlen ⊢
      omega
    · refine ⟨by have := h.kp.1; simp; omega, fun k hk => ?_⟩
      have := h.kp.1
      rw [g_lt (by simp; omega), g_lt (by omega)]
      exact h.kp.2 k hk
  · have htlt := get_lt hg
    have hg2 : Mem.get (m ++ [some (Ent.obj false (cs.map (AV.int .i64)))]) t = some (.obj false (nms.map fun a => .arr a 0 n none)) := by rw [g_lt htlt]; exact hg
    have ho : (m ++ [some (Ent.obj false (cs.map (AV.int .i64)))]).obj? t = some (false, nms.map fun a => .arr a 0 n none) := by rw [obj_objE, hg2]; rfl
    have hX : rowX (m ++ [some (Ent.obj false (cs.map (AV.int .i64)))]) none (.arr t 0 nms.length none) = some (nms.length, nms.map fun a => .arr a 0 n none, (m ++ [some (Ent.obj false (cs.map (AV.int .i64)))]).set t none) := by
      simp only [rowX, ho, Option.bind_some]
      rw [if_pos ⟨trivial, trivial, hpos, trivial, by simp [Sh.size]⟩]
    have ha : appA none true 22 none 24 (m ++ [some (Ent.obj false (cs.map (AV.int .i64)))]) (.arr t 0 nms.length none) (.vec 1 none [.arr m.length 0 n none]) = some (.arr ((m ++ [some (Ent.obj false (cs.map (AV.int .i64)))]).set t none).length 0 (nms.length + 1) none, ((m ++ [some (Ent.obj false (cs.map (AV.int .i64)))]).set t none) ++ [some (.obj false ((nms.map fun a => .arr a 0 n none) ++ [.arr m.length 0 n none]))]) := by
      simp only [appA, appR, hY, hX, Option.bind_some]
      rw [if_pos (hroom nms.length (by omega))]
    have hml : ((m ++ [some (Ent.obj false (cs.map (AV.int .i64)))]).set t none).length = m.length + 1 := by simp
    refine ⟨_, _, ha, ?_, rows _ (fun k hk hne => ?_), nd2, lo2, ?_, .inr ⟨((m ++ [some (Ent.obj false (cs.map (AV.int .i64)))]).set t none).length, by simp, by simp, by rw [g_eq rfl, List.map_append]; rfl, by have := h.kp.1; rw [hml]; omega, ?_⟩⟩
    · simp only [List.length_append, hlen, List.length_cons, List.length_nil]
    · rw [g_lt (by rw [hml]; exact hk), g_sne (hne t rfl)]
    · refine ⟨by have := h.kp.1; rw [List.length_append, hml]; omega, fun k hk => ?_⟩
      have := h.kp.1
      rw [g_lt (by rw [hml]; omega), g_sne (by omega), g_lt (by omega)]
      exact h.kp.2 k hk
    · rw [hml]
      intro hh
      rcases List.mem_append.1 hh with hh | hh
      · have := hlt _ hh; omega
      · simp at hh
theorem frz_int1 {m : Mem} {nm k : Nat} {ds : List Int} (h : m.get nm = some (.obj false (ds.map (AV.int .i64)))) : frz m (k + 2) (.arr nm 0 ds.length none) = some (IA false .no ds, [nm]) := by
  have h1 : ((ds.map (AV.int .i64)).all atomOk) = true := by simp [List.all_map, atomOk]
  have hg : m.obj? nm = some (false, ds.map (AV.int .i64)) := by rw [obj_objE, h]; rfl
  show (m.obj? nm).bind _ = _
  rw [hg]
  simp only [Option.bind_some, Sh.size, List.length_map, Nat.zero_add, Nat.mul_one, Nat.le_refl, decide_true, Bool.not_false, Bool.and_self, if_true, List.drop_zero, List.take_of_length_le (by simp : (ds.map (AV.int .i64)).length ≤ ds.length)]
  rw [mapF_int]
  simp only [Option.bind_some, h1, plL_int, Bool.and_self, if_true, grp]
  rw [List.take_of_length_le (by simp)]
theorem mapF_rows {m : Mem} {n k : Nat} : ∀ (nms : List Nat) (css : List (List Int)), nms.length = css.length → (∀ i (h1 : i < nms.length) (h2 : i < css.length), m.get nms[i] = some (.obj false (css[i].map (AV.int .i64))) ∧ css[i].length = n) → mapF (frz m (k + 2)) (nms.map fun a => .arr a 0 n none) = some (css.map (IA false .no), nms)
  | [], [], _, _ => rfl
  | [], _ :: _, h, _ => by simp at h
  | _ :: _, [], h, _ => by simp at h
  | a :: nms, cs :: css, h, hr => by
    obtain ⟨r1, r2⟩ := hr 0 (by simp) (by simp)
    simp only [List.getElem_cons_zero] at r1 r2
    have ih := mapF_rows (n := n) (k := k) (m := m) nms css (by simpa using h) (fun i h1 h2 => by
      have := hr (i + 1) (by simpa using h1) (by simpa using h2)
      simpa using this)
    have h1 := frz_int1 (k := k) r1
    rw [r2] at h1
    simp only [List.map_cons, mapF, h1, Option.bind_some, ih, Option.map_some, List.singleton_append]
theorem plL_rows : ∀ css : List (List Int), plL (css.map (IA false .no)) = true
  | [] => rfl
  | c :: css => by
    have : pl (IA false .no c) = true := rfl
    simp [plL, this, plL_rows css]
theorem frz_all {n t : Nat} {m0 m : Mem} {nms : List Nat} {css : List (List Int)} (h : AL n m0 m (.arr t 0 nms.length none) nms css) : frz m fuelF (.arr t 0 nms.length none) = some (.lst none false .no (css.map (IA false .no)), t :: nms) := by
  have hg : m.get t = some (.obj false (nms.map fun a => .arr a 0 n none)) := by
    rcases h.x with ⟨e, _⟩ | ⟨t', e, _, hg, _, _⟩
    · cases e
    · cases e; exact hg
  have ho : m.obj? t = some (false, nms.map fun a => .arr a 0 n none) := by rw [obj_objE, hg]; rfl
  have hlen := h.len
  have h1 : ((css.map (IA false .no)).all atomOk) = true := by simp [List.all_map, atomOk, IA]
  show (m.obj? t).bind _ = _
  rw [ho]
  simp only [Option.bind_some, Sh.size, List.length_map, Nat.zero_add, Nat.mul_one, Nat.le_refl, decide_true, Bool.not_false, Bool.and_self, if_true, List.drop_zero, List.take_of_length_le (by simp : (nms.map fun a => AV.arr a 0 n none).length ≤ nms.length)]
  rw [mapF_rows nms css hlen h.row]
  simp only [Option.bind_some, h1, plL_rows, Bool.and_self, if_true, grp]
  rw [List.take_of_length_le (by simp; omega)]
theorem W35 {z : Bool} {o : Own} {ar : List Int} (h1 : ∀ x ∈ ar, 1 ≤ x ∧ x ≤ 64) (hal : ar.length ≤ 16) (hp : prodF ar ≤ 300) {m0 : Mem} : ∀ (j i : Nat) (m : Mem) (x : AV) (nms : List Nat) (css : List (List Int)), i + j = prodF ar → AL ar.length m0 m x nms css → css.length = i → (∀ k (h : k < css.length), Asn ar k css[k]) →
    ∃ (m' : Mem) (x' : AV) (nms' : List Nat) (css' : List (List Int)), L35_3 (IA z o ar) x (.int .i64 i) m (K35_3 (finK cfg.P f35.results.toList)) = some (x', m') ∧ AL ar.length m0 m' x' nms' css' ∧ css'.length = prodF ar ∧ ∀ k (h : k < css'.length), Asn ar k css'[k] := by
  have hpl : placesF 1048576 1 ar = (prodF ar : Nat) := by
    rw [places_big ar 1 (fun a ha => (h1 a ha).1) (by omega) (by omega), Int.one_mul]
  intro j
  induction j with
  | zero =>
    intro i m x nms css hi h hl hc
    refine ⟨m, x, nms, css, ?_, h, by omega, hc⟩
    rw [L35_3_eq, pc27 _ _ _ hal h1 1048576 (by omega), Option.bind_some, hpl, n_lss, Option.bind_some, ifA_dec, if_neg (by omega), K35_3_x0]
  | succ j ih =>
    intro i m x nms css hi h hl hc
    obtain ⟨cs, e64, hcs⟩ := C64 z o ar h1 hal (i := i) (by omega) (by omega) m
    obtain ⟨x1, m1, ea, g1⟩ := al_app h hcs.len (by omega)
    obtain ⟨m', x', nms', css', e, k⟩ := ih (i + 1) m1 x1 (nms ++ [m.length]) (css ++ [cs]) (by omega) g1 (by simp [hl]) (fun k hk => by
      by_cases hk2 : k < css.length
      · rw [List.getElem_append_left hk2]; exact hc k hk2
      · have : k = css.length := by simp at hk; omega
        subst this
        have e : (css ++ [cs])[css.length]'(by simp) = cs := by simp
        rw [e, hl]; exact hcs)
    refine ⟨m', x', nms', css', ?_, k⟩
    have hb : buildSliceA none [.arr m.length 0 ar.length none] = some (.vec 1 none [.arr m.length 0 ar.length none]) := rfl
    rw [L35_3_eq, pc27 _ _ _ hal h1 1048576 (by omega), Option.bind_some, hpl, n_lss, Option.bind_some, ifA_dec, if_pos (by omega), e64, Option.bind_some, hb, Option.bind_some, ea, Option.bind_some, i_add1 (by omega), Option.bind_some]
    exact e
theorem C35 (z : Bool) (o : Own) (ar : List Int) (h1 : ∀ x ∈ ar, 1 ≤ x ∧ x ≤ 64) (hal : ar.length ≤ 16) (hp : prodF ar ≤ 300) (m : Mem) : ∃ (m' : Mem) (t : Nat) (nms : List Nat) (css : List (List Int)), AC cfg 35 [IA z o ar] m = some (.arr t 0 nms.length none, m') ∧ AL ar.length m m' (.arr t 0 nms.length none) nms css ∧ css.length = prodF ar ∧ ∀ k (h : k < css.length), Asn ar k css[k] := by
  obtain ⟨m', x', nms, css, e, g, hl, hc⟩ := W35 (z := z) (o := o) h1 hal hp (m0 := m) (prodF ar) 0 m (.lst none true .full []) [] [] (by omega) ⟨rfl, fun k h => by simp at h, by simp, by simp, ⟨Nat.le_refl _, fun _ _ => rfl⟩, .inl ⟨rfl, rfl⟩⟩ rfl (fun k h => by simp at h)
  have hpos := prod_pos fun x hx => (h1 x hx).1
  have hlen := g.len
  rcases g.x with ⟨_, rfl⟩ | ⟨t, rfl, _⟩
  · simp at hlen; omega
  · refine ⟨m', t, nms, css, ?_, g, hl, hc⟩
    rw [T35]
    exact e
theorem V35 (z : Bool) (o : Own) (ar : List Int) (h1 : ∀ x ∈ ar, 1 ≤ x ∧ x ≤ 64) (hal : ar.length ≤ 16) (hp : prodF ar ≤ 300) : ∃ (z' : Bool) (o' : Own) (css : List (List Int)), AP cfg 35 [IA z o ar] = some (.lst none z' o' (css.map (IA false .no))) ∧ css.length = prodF ar ∧ ∀ k (h : k < css.length), Asn ar k css[k] := by
  obtain ⟨m', t, nms, css, e, g, hl, hc⟩ := C35 z o ar h1 hal hp []
  exact ⟨false, .no, css, AP_of e (frz_all g) rfl, hl, hc⟩
theorem pc35 (z : Bool) (o : Own) (ar : List Int) (h1 : ∀ x ∈ ar, 1 ≤ x ∧ x ≤ 64) (hal : ar.length ≤ 16) (hp : prodF ar ≤ 300) (m : Mem) : ∃ (z' : Bool) (o' : Own) (css : List (List Int)), pcall (AP cfg) none m 35 [IA z o ar] = some (.lst none z' o' (css.map (IA false .no)), m) ∧ css.length = prodF ar ∧ ∀ k (h : k < css.length), Asn ar k css[k] := by
  obtain ⟨z', o', css, e, h⟩ := V35 z o.fr ar h1 hal hp
  exact ⟨z', o', css, by rw [pcall1 (fz_IA z o ar), e]; rfl, h⟩
/-! ### Eval -/
section
variable {m : Mem} {s : Nat} {F : List Nat} {most : Int} {l : List ND} {zs z : Bool} {os o : Own} {ar : List Int} {cs : List Int}
theorem W36a {p : Nat} {na : AV} (hs : m.get s = some (Ent.obj true [IA zs os ar, na, .mref p, .int .i64 most])) (hal : ar.length ≤ 16) (hl : cs.length = ar.length) (hb : ∀ v, v < ar.length → 0 ≤ cs.getD v 0 ∧ cs.getD v 0 < ar.getD v 0) (x1 : AV) : ∀ j i : Nat, i + j = cs.length →
    L36_6 (.ptr s 0) x1 (IA z o cs) (IA z o cs) (.int .i64 cs.length) (.int .i64 i) m (K36_6 (finK cfg.P f36.results.toList)) = L36_11 (.ptr s 0) x1 (IA z o cs) m (K36_11 (finK cfg.P f36.results.toList))
  | 0, i, h => by
    rw [L36_6_eq, binA_lss, Option.bind_some, ifA_dec, if_neg (by omega), K36_6_x0]
  | j + 1, i, h => by
    have hi : i < cs.length := by omega
    have hia : i < ar.length := by omega
    have hbi := hb i hia
    rw [List.getD_eq_getElem?_getD, List.getD_eq_getElem?_getD, List.getElem?_eq_getElem hi, List.getElem?_eq_getElem hia, Option.getD_some, Option.getD_some] at hbi
    have ih := W36a hs hal hl hb x1 j (i + 1) (by omega)
    have hix := idx_IA (z := zs) (o := os) (k := .i64) hia
    rw [L36_6_eq, binA_lss, Option.bind_some, ifA_dec, if_pos (by omega), idx_IA hi, Option.bind_some, loadA_one, Option.bind_some, binA_lss, Option.bind_some, ifA_dec, if_neg (by omega)]
    repeat ((with_reducible (first | apply bs | apply bsy)); (focus (first | (simp (disch := (first | assumption | omega | (simp only [List.length_append, List.length_set, List.length_cons, List.length_nil]; first | done | omega))) only [List.all_cons, List.all_nil, Bool.and_true, Bool.and_self, beq_self_eq_true, resv1, List.length_map, ld_v3, ld_v1, binA_eql, binA_neq, binA_lss, binA_leq, binA_gtr, binA_geq, loadA_one, un_not, ld_ptr, st_ptr, putE1, objE_obj, Option.bind_some, cut1, cut3, cut4, nil_ptr, fa_ptr, g_lt, g_eq, g_sne, g_seq, new_n, box_n, List.getElem?_cons_zero, List.getElem?_cons_succ, ex0, ex1, Sh.size, cells_int, aok_int, cells_bool, aok_bool, cells_str, aok_str, cells_lst, aok_lst, cells_ptr, aok_ptr, cells_arr, aok_arr, cells_fn, aok_fn, cells_mref, aok_mref, cells_nilp, aok_nilp, cells_agg, shOk_n, shOk_s, lenA_lst, List.length_cons, List.length_nil, if_true, putAt, List.take_succ_cons, List.take_zero, List.drop_succ_cons, List.drop_zero, List.cons_append, List.nil_append, List.append_nil, Nat.zero_add, Nat.reduceAdd, Nat.reduceLeDiff, Nat.le_refl, List.drop_nil, List.take_nil, List.length_append, List.length_set, hs, hix]; first | done | rfl) | rfl)); try dsimp only)
    rw [ifA_dec, if_neg (by omega), i_add1 (by omega), Option.bind_some]
    exact ih
theorem A36 (h : St8 m s F (IA zs os ar) most l) (g : GoodL ar l) (hm : most ≠ 0) (hal : ar.length ≤ 16) {id : Nat} (hid : id < l.length) (hl : cs.length = ar.length) (hb : ∀ v, v < ar.length → 0 ≤ cs.getD v 0 ∧ cs.getD v 0 < ar.getD v 0) :
    AC cfg 36 [.ptr s 0, .int .i64 id, IA z o cs] m = some (.tup [.int .i64 (S l (asgOf cs) id), .int .i64 0], m) := by
  have e50 := A50 h hm
  have e56 := A56 h id
  have hd : decide (0 ≤ (id : Int) ∧ (id : Int) < l.length) = true := decide_eq_true (by omega)
  rw [hd] at e56
  obtain ⟨p, na, T, h, rfl⟩ := h
  have hs := h.hs
  have ha : Asg ar (asgOf cs) := fun v hv => by have := hb v hv; unfold asgOf; omega
  have walk : ∀ id, ∀ (hid : id < l.length), L36_11 (.ptr s 0) (.int .i64 id) (IA z o cs) m (K36_11 (finK cfg.P f36.results.toList)) = some (.tup [.int .i64 (S l (asgOf cs) id), .int .i64 0], m) := by
    intro id
    induction id using Nat.strongRecOn with
    | ind id ih =>
      intro hid
      have hix := na_idx h.hn hid
      have f1 : ∀ (a b c : AV), fieldAddrA 0 (.vptr [a, b, c]) = some (.vptr [a, b, c]) := fun _ _ _ => rfl
      have f2 : ∀ (a b c : AV), fieldAddrA 1 (.vptr [a, b, c]) = some (.vptr [b, c]) := fun _ _ _ => rfl
      have f3 : ∀ (a b c : AV), fieldAddrA 2 (.vptr [a, b, c]) = some (.vptr [c]) := fun _ _ _ => rfl
      have l2 : ∀ (m : Mem) (a b : AV), loadA none m (.vptr [a, b]) = some a := fun _ _ _ => rfl
      rw [L36_11_eq]
      repeat ((with_reducible (first | apply bs | apply bsy)); (focus (first | (simp (disch := (first | assumption | omega | (simp only [List.length_append, List.length_set, List.length_cons, List.length_nil]; first | done | omega))) only [List.all_cons, List.all_nil, Bool.and_true, Bool.and_self, beq_self_eq_true, resv1, List.length_map, ld_v3, ld_v1, binA_eql, binA_neq, binA_lss, binA_leq, binA_gtr, binA_geq, loadA_one, un_not, ld_ptr, st_ptr, putE1, objE_obj, Option.bind_some, cut1, cut3, cut4, nil_ptr, fa_ptr, g_lt, g_eq, g_sne, g_seq, new_n, box_n, List.getElem?_cons_zero, List.getElem?_cons_succ, ex0, ex1, Sh.size, cells_int, aok_int, cells_bool, aok_bool, cells_str, aok_str, cells_lst, aok_lst, cells_ptr, aok_ptr, cells_arr, aok_arr, cells_fn, aok_fn, cells_mref, aok_mref, cells_nilp, aok_nilp, cells_agg, shOk_n, shOk_s, lenA_lst, List.length_cons, List.length_nil, if_true, putAt, List.take_succ_cons, List.take_zero, List.drop_succ_cons, List.drop_zero, List.cons_append, List.nil_append, List.append_nil, Nat.zero_add, Nat.reduceAdd, Nat.reduceLeDiff, Nat.le_refl, List.drop_nil, List.take_nil, List.length_append, List.length_set, hs, hix, f1, f2, f3, l2]; first | done | rfl) | rfl)); try dsimp only)
      rw [ifA_dec]
      by_cases hv : l[id].var < 0
      · rw [if_neg (by omega), K36_11_x2]
        repeat ((with_reducible (first | apply bs | apply bsy)); (focus (first | (simp (disch := (first | assumption | omega | (simp only [List.length_append, List.length_set, List.length_cons, List.length_nil]; first | done | omega))) only [List.all_cons, List.all_nil, Bool.and_true, Bool.and_self, beq_self_eq_true, resv1, List.length_map, ld_v3, ld_v1, binA_eql, binA_neq, binA_lss, binA_leq, binA_gtr, binA_geq, loadA_one, un_not, ld_ptr, st_ptr, putE1, objE_obj, Option.bind_some, cut1, cut3, cut4, nil_ptr, fa_ptr, g_lt, g_eq, g_sne, g_seq, new_n, box_n, List.getElem?_cons_zero, List.getElem?_cons_succ, ex0, ex1, Sh.size, cells_int, aok_int, cells_bool, aok_bool, cells_str, aok_str, cells_lst, aok_lst, cells_ptr, aok_ptr, cells_arr, aok_arr, cells_fn, aok_fn, cells_mref, aok_mref, cells_nilp, aok_nilp, cells_agg, shOk_n, shOk_s, lenA_lst, List.length_cons, List.length_nil, if_true, putAt, List.take_succ_cons, List.take_zero, List.drop_succ_cons, List.drop_zero, List.cons_append, List.nil_append, List.append_nil, Nat.zero_add, Nat.reduceAdd, Nat.reduceLeDiff, Nat.le_refl, List.drop_nil, List.take_nil, List.length_append, List.length_set, hs, hix, f1, f2, f3, l2]; first | done | rfl) | rfl)); try dsimp only)
        rw [S_leaf hid hv]
      · rw [if_pos (by omega)]
        obtain ⟨hv1, hv2⟩ := g.var id hid (by omega)
        obtain ⟨v, hve⟩ := Int.eq_ofNat_of_zero_le (by omega : 0 ≤ l[id].var)
        have hvl : v < ar.length := by omega
        have hcl : v < cs.length := by omega
        have hbv := hb v hvl
        have hcg : cs.getD v 0 = cs[v] := by rw [List.getD_eq_getElem?_getD, List.getElem?_eq_getElem hcl, Option.getD_some]
        obtain ⟨q, hq⟩ := Int.eq_ofNat_of_zero_le hbv.1
        rw [hve, Int.toNat_natCast] at hv2
        have hql : q < l[id].kids.length := by omega
        obtain ⟨t, et, ht, _⟩ := kid_at g hid (by omega) (k := q) (by rw [hve, Int.toNat_natCast, ← hv2]; omega)
        have i1 : indexAddrA none (IA z o cs) (.int .i64 v) = some (.vptr [.int .i64 q]) := by rw [idx_IA hcl, ← hcg, hq]
        have hkA := kids_IA (h.ok _ (List.getElem_mem hid))
        have hkq : l[id].kids[q] = (t : Int) := by rw [← et, List.getD_eq_getElem?_getD, List.getElem?_eq_getElem hql, Option.getD_some]
        have i2 : indexAddrA none (kidsA l[id]) (.int .i64 q) = some (.vptr [.int .i64 t]) := by rw [hkA, idx_IA hql, hkq]
        have sn := S_node g ha hid hv
        have ea : asgOf cs l[id].var.toNat = q := by rw [hve, Int.toNat_natCast]; unfold asgOf; rw [hq, Int.toNat_natCast]
        rw [ea, et, Int.toNat_natCast] at sn
        rw [sn, ← ih t ht (by omega)]
        repeat ((with_reducible (first | apply bs | apply bsy)); (focus (first | (simp (disch := (first | assumption | omega | (simp only [List.length_append, List.length_set, List.length_cons, List.length_nil]; first | done | omega))) only [List.all_cons, List.all_nil, Bool.and_true, Bool.and_self, beq_self_eq_true, resv1, List.length_map, ld_v3, ld_v1, binA_eql, binA_neq, binA_lss, binA_leq, binA_gtr, binA_geq, loadA_one, un_not, ld_ptr, st_ptr, putE1, objE_obj, Option.bind_some, cut1, cut3, cut4, nil_ptr, fa_ptr, g_lt, g_eq, g_sne, g_seq, new_n, box_n, List.getElem?_cons_zero, List.getElem?_cons_succ, ex0, ex1, Sh.size, cells_int, aok_int, cells_bool, aok_bool, cells_str, aok_str, cells_lst, aok_lst, cells_ptr, aok_ptr, cells_arr, aok_arr, cells_fn, aok_fn, cells_mref, aok_mref, cells_nilp, aok_nilp, cells_agg, shOk_n, shOk_s, lenA_lst, List.length_cons, List.length_nil, if_true, putAt, List.take_succ_cons, List.take_zero, List.drop_succ_cons, List.drop_zero, List.cons_append, List.nil_append, List.append_nil, Nat.zero_add, Nat.reduceAdd, Nat.reduceLeDiff, Nat.le_refl, List.drop_nil, List.take_nil, List.length_append, List.length_set, hs, hix, f1, f2, f3, l2]; first | done | rfl) | rfl)); try dsimp only)
        rw [hve]
        repeat ((with_reducible (first | apply bs | apply bsy)); (focus (first | (simp (disch := (first | assumption | omega | (simp only [List.length_append, List.length_set, List.length_cons, List.length_nil]; first | done | omega))) only [List.all_cons, List.all_nil, Bool.and_true, Bool.and_self, beq_self_eq_true, resv1, List.length_map, ld_v3, ld_v1, binA_eql, binA_neq, binA_lss, binA_leq, binA_gtr, binA_geq, loadA_one, un_not, ld_ptr, st_ptr, putE1, objE_obj, Option.bind_some, cut1, cut3, cut4, nil_ptr, fa_ptr, g_lt, g_eq, g_sne, g_seq, new_n, box_n, List.getElem?_cons_zero, List.getElem?_cons_succ, ex0, ex1, Sh.size, cells_int, aok_int, cells_bool, aok_bool, cells_str, aok_str, cells_lst, aok_lst, cells_ptr, aok_ptr, cells_arr, aok_arr, cells_fn, aok_fn, cells_mref, aok_mref, cells_nilp, aok_nilp, cells_agg, shOk_n, shOk_s, lenA_lst, List.length_cons, List.length_nil, if_true, putAt, List.take_succ_cons, List.take_zero, List.drop_succ_cons, List.drop_zero, List.cons_append, List.nil_append, List.append_nil, Nat.zero_add, Nat.reduceAdd, Nat.reduceLeDiff, Nat.le_refl, List.drop_nil, List.take_nil, List.length_append, List.length_set, hs, i1, i2]; first | done | rfl) | rfl)); try dsimp only)
  rw [T36]
  repeat ((with_reducible (first | apply bs | apply bsy)); (focus (first | (simp (disch := (first | assumption | omega | (simp only [List.length_append, List.length_set, List.length_cons, List.length_nil]; first | done | omega))) only [List.all_cons, List.all_nil, Bool.and_true, Bool.and_self, beq_self_eq_true, resv1, List.length_map, ld_v3, ld_v1, binA_eql, binA_neq, binA_lss, binA_leq, binA_gtr, binA_geq, loadA_one, un_not, ld_ptr, st_ptr, putE1, objE_obj, Option.bind_some, cut1, cut3, cut4, nil_ptr, fa_ptr, g_lt, g_eq, g_sne, g_seq, new_n, box_n, List.getElem?_cons_zero, List.getElem?_cons_succ, ex0, ex1, Sh.size, cells_int, aok_int, cells_bool, aok_bool, cells_str, aok_str, cells_lst, aok_lst, cells_ptr, aok_ptr, cells_arr, aok_arr, cells_fn, aok_fn, cells_mref, aok_mref, cells_nilp, aok_nilp, cells_agg, shOk_n, shOk_s, lenA_lst, List.length_cons, List.length_nil, if_true, putAt, List.take_succ_cons, List.take_zero, List.drop_succ_cons, List.drop_zero, List.cons_append, List.nil_append, List.append_nil, Nat.zero_add, Nat.reduceAdd, Nat.reduceLeDiff, Nat.le_refl, List.drop_nil, List.take_nil, List.length_append, List.length_set, e50]; first | done | rfl) | rfl)); try dsimp only)
  rw [ifA_f]
  repeat ((with_reducible (first | apply bs | apply bsy)); (focus (first | (simp (disch := (first | assumption | omega | (simp only [List.length_append, List.length_set, List.length_cons, List.length_nil]; first | done | omega))) only [List.all_cons, List.all_nil, Bool.and_true, Bool.and_self, beq_self_eq_true, resv1, List.length_map, ld_v3, ld_v1, binA_eql, binA_neq, binA_lss, binA_leq, binA_gtr, binA_geq, loadA_one, un_not, ld_ptr, st_ptr, putE1, objE_obj, Option.bind_some, cut1, cut3, cut4, nil_ptr, fa_ptr, g_lt, g_eq, g_sne, g_seq, new_n, box_n, List.getElem?_cons_zero, List.getElem?_cons_succ, ex0, ex1, Sh.size, cells_int, aok_int, cells_bool, aok_bool, cells_str, aok_str, cells_lst, aok_lst, cells_ptr, aok_ptr, cells_arr, aok_arr, cells_fn, aok_fn, cells_mref, aok_mref, cells_nilp, aok_nilp, cells_agg, shOk_n, shOk_s, lenA_lst, List.length_cons, List.length_nil, if_true, putAt, List.take_succ_cons, List.take_zero, List.drop_succ_cons, List.drop_zero, List.cons_append, List.nil_append, List.append_nil, Nat.zero_add, Nat.reduceAdd, Nat.reduceLeDiff, Nat.le_refl, List.drop_nil, List.take_nil, List.length_append, List.length_set, e56]; first | done | rfl) | rfl)); try dsimp only)
  rw [Bool.not_true, ifA_f]
  repeat ((with_reducible (first | apply bs | apply bsy)); (focus (first | (simp (disch := (first | assumption | omega | (simp only [List.length_append, List.length_set, List.length_cons, List.length_nil]; first | done | omega))) only [List.all_cons, List.all_nil, Bool.and_true, Bool.and_self, beq_self_eq_true, resv1, List.length_map, ld_v3, ld_v1, binA_eql, binA_neq, binA_lss, binA_leq, binA_gtr, binA_geq, loadA_one, un_not, ld_ptr, st_ptr, putE1, objE_obj, Option.bind_some, cut1, cut3, cut4, nil_ptr, fa_ptr, g_lt, g_eq, g_sne, g_seq, new_n, box_n, List.getElem?_cons_zero, List.getElem?_cons_succ, ex0, ex1, Sh.size, cells_int, aok_int, cells_bool, aok_bool, cells_str, aok_str, cells_lst, aok_lst, cells_ptr, aok_ptr, cells_arr, aok_arr, cells_fn, aok_fn, cells_mref, aok_mref, cells_nilp, aok_nilp, cells_agg, shOk_n, shOk_s, lenA_lst, List.length_cons, List.length_nil, if_true, putAt, List.take_succ_cons, List.take_zero, List.drop_succ_cons, List.drop_zero, List.cons_append, List.nil_append, List.append_nil, Nat.zero_add, Nat.reduceAdd, Nat.reduceLeDiff, Nat.le_refl, List.drop_nil, List.take_nil, List.length_append, List.length_set, hs, len_IA]; first | done | rfl) | rfl)); try dsimp only)
  rw [ifA_dec, if_neg (by omega), len_IA, Option.bind_some]
  exact (W36a hs hal hl hb (.int .i64 id) cs.length 0 (by omega)).trans (walk id hid)
end
end Go.Ab

/- The store's list of a diagram, by value. -/
set_option linter.unusedVariables false
set_option linter.unusedSimpArgs false
set_option linter.unusedSectionVars false
set_option maxRecDepth 100000
namespace Go.Ab
open Go.Proofs Go.Proofs.Tryd

theorem ld_box {m : Mem} {nm : Nat} {b : Bool} {v : AV} (h : m.get nm = some (.obj b [v])) : loadA none m (.ptr nm 0) = some v := by
  rw [ld_ptr, h, objE_obj, Option.bind_some]; rfl
theorem st_box {m : Mem} {nm : Nat} {b : Bool} {v0 v : AV} (h : m.get nm = some (.obj b [v0])) (hv : shOk none v = true) (hc : v.cells = [v]) : storeA none m (.ptr nm 0) v = some (m.set nm (some (.obj b [v]))) := by
  rw [st_ptr, h, objE_obj, Option.bind_some]
  simp [putE1, Sh.size, hv, putAt, hc]
theorem ld_bool {m : Mem} {nm i : Nat} {ds : List Bool} (h : m.get nm = some (.obj false (ds.map .bool))) (hi : i < ds.length) : loadA none m (.ptr nm i) = some (.bool (ds.getD i false)) := by
  rw [ld_ptr, h, objE_obj, Option.bind_some, cut1, List.getElem?_map, List.getElem?_eq_getElem hi, List.getD_eq_getElem?_getD, List.getElem?_eq_getElem hi]; rfl
theorem st_bool {m : Mem} {nm i : Nat} {ds : List Bool} {y : Bool} (h : m.get nm = some (.obj false (ds.map .bool))) (hi : i < ds.length) : storeA none m (.ptr nm i) (.bool y) = some (m.set nm (some (.obj false ((ds.set i y).map .bool)))) := by
  have hg : m.obj? nm = some (false, ds.map .bool) := by rw [obj_objE, h]; rfl
  have h1 : i + 1 ≤ ds.length := hi
  simp only [storeA, hg, Option.bind_some, Sh.size, List.length_map, h1, if_true, shOk, atomOk, AV.cells]
  congr 4
  simp only [putAt, List.length_cons, List.length_nil]
  rw [List.map_set, List.set_eq_take_append_cons_drop]
  simp [hi, List.map_take, List.map_drop]
theorem f1v (a b c : AV) : fieldAddrA 1 (.vptr [a, b, c]) = some (.vptr [b, c]) := rfl
theorem f0v (a b c : AV) : fieldAddrA 0 (.vptr [a, b, c]) = some (.vptr [a, b, c]) := rfl
theorem f2v (a b c : AV) : fieldAddrA 2 (.vptr [a, b, c]) = some (.vptr [c]) := rfl
theorem l2v (m : Mem) (a b : AV) : loadA none m (.vptr [a, b]) = some a := rfl
theorem new_s (s : Nat) (m : Mem) (e : Ent) : newAt (some s) m e = (s, m.set s (some e)) := rfl
abbrev NI (z : Bool) (o : Own) (ids : List Nat) : AV := IA z o (ids.map Int.ofNat)
/-- Where the listing stands. -/
structure LS (m0 m : Mem) (b s : Nat) (sb : List Bool) (out : List Nat) (x : AV) (T : List Nat) : Prop where
  hb : b = m0.length
  fr : Fr m0 m []
  h0 : m.get b = some (.obj true [.ptr s 0])
  h1 : m.get (b + 1) = some (.obj true [x])
  h2 : m.get (b + 2) = some (.obj false (sb.map .bool))
  h3 : m.get (b + 3) = some (.obj true [.arr (b + 2) 0 sb.length none])
  h4 : m.get (b + 4) = some (.obj true [.fn 75 [.ptr (b + 3) 0, .ptr b 0, .ptr (b + 4) 0, .ptr (b + 1) 0]])
  gr : GR 3 m x ((out.map Int.ofNat).map (AV.int .i64)) T
  hT : ∀ y ∈ T, b + 5 ≤ y
theorem nodup_lt : ∀ (n : Nat) (l : List Nat), l.Nodup → (∀ x ∈ l, x < n) → l.length ≤ n
  | 0, [], _, _ => Nat.le_refl _
  | 0, x :: l, _, h => by have := h x List.mem_cons_self; omega
  | n + 1, l, hn, h => by
    by_cases hm : n ∈ l
    · have e := List.length_erase_of_mem hm
      have := nodup_lt n (l.erase n) (hn.erase n) fun x hx => by
        have h1 := (hn.mem_erase_iff).1 hx
        have := h x h1.2
        have := h1.1
        omega
      omega
    · have := nodup_lt n l hn fun x hx => by
        have h1 := h x hx
        have : x ≠ n := fun e => hm (e ▸ hx)
        omega
      omega
section
variable {m0 : Mem} {b s : Nat} {F : List Nat} {arms : AV} {most : Int} {l : List ND} {ar : List Int}
def At75 (l : List ND) (m0 : Mem) (b s id : Nat) : Prop := ∀ (m : Mem) (sb : List Bool) (out : List Nat) (x : AV) (T : List Nat), LS m0 m b s sb out x T → sb.length = l.length → Cl l out → (∀ i, i ≤ id → sb.getD i false = decide (i ∈ out)) →
  ∃ (m' : Mem) (sb' : List Bool) (x' : AV) (T' : List Nat), AC cfg 75 [.int .i64 id, .ptr (b + 3) 0, .ptr b 0, .ptr (b + 4) 0, .ptr (b + 1) 0] m = some (.tup [], m') ∧ LS m0 m' b s sb' (Vi l id out) x' T' ∧ sb'.length = l.length ∧
    (∀ i, i ≤ id → sb'.getD i false = decide (i ∈ Vi l id out)) ∧ ∀ i, id < i → sb'.getD i false = sb.getD i false
theorem W75 (g : GoodL ar l) {id : Nat} (hid : id < l.length) (hll : l.length ≤ 100000) (ih : ∀ k, k < id → At75 l m0 b s k) {z : Bool} {o : Own} {kids : List Int} (hk : ∀ k ∈ kids, ∃ t : Nat, k = t ∧ t < id) (hkl : kids.length ≤ 1000) : ∀ (j i : Nat) (m : Mem) (sb : List Bool) (out : List Nat) (x : AV) (T : List Nat), i + j = kids.length → LS m0 m b s sb out x T → sb.length = l.length → Cl l out → (∀ i, i < id → sb.getD i false = decide (i ∈ out)) →
    ∃ (m' : Mem) (sb' : List Bool) (x' : AV) (T' : List Nat), L75_3 (.int .i64 id) (.ptr (b + 4) 0) (.ptr (b + 1) 0) (IA z o kids) (.int .i64 kids.length) (.int .i64 i) m (K75_3 (finK cfg.P f75.results.toList)) = K75_3 (finK cfg.P f75.results.toList) (.exit 0) (O75_3 (.int .i64 id) (.ptr (b + 1) 0) m') ∧
      LS m0 m' b s sb' (Vis l (kids.drop i) out) x' T' ∧ sb'.length = l.length ∧ (∀ i, i < id → sb'.getD i false = decide (i ∈ Vis l (kids.drop i) out) ∨ True) ∧ (∀ q, q < id → sb'.getD q false = decide (q ∈ Vis l (kids.drop i) out)) ∧ ∀ q, id ≤ q → sb'.getD q false = sb.getD q false := by
  intro j
  induction j with
  | zero =>
    intro i m sb out x T hi h hsl hc hsb
    refine ⟨m, sb, x, T, ?_, ?_, hsl, fun _ _ => .inr trivial, ?_, fun _ _ => rfl⟩
    · rw [L75_3_eq, binA_lss, Option.bind_some, ifA_dec, if_neg (by omega)]
    · rw [List.drop_eq_nil_of_le (by omega)]; exact h
    · rw [List.drop_eq_nil_of_le (by omega)]; exact hsb
  | succ j ihj =>
    intro i m sb out x T hi h hsl hc hsb
    have hil : i < kids.length := by omega
    obtain ⟨t, et, ht⟩ := hk _ (List.getElem_mem hil)
    obtain ⟨m1, sb1, x1, T1, e1, k1, k2, k3, k4⟩ := ih t ht m sb out x T h hsl hc (fun q hq => hsb q (by omega))
    obtain ⟨c1, c2, r, c3, c4⟩ := Vi_facts g t (by omega) out hc
    have hsb1 : ∀ q, q < id → sb1.getD q false = decide (q ∈ Vi l t out) := fun q hq => by
      by_cases hqt : q ≤ t
      · exact k3 q hqt
      · rw [k4 q (by omega), hsb q hq]
        refine decide_eq_decide.2 ⟨fun hh => by rw [c3]; exact List.mem_append_left _ hh, fun hh => ?_⟩
        rw [c3] at hh
        rcases List.mem_append.1 hh with hh | hh
        · exact hh
        · have := c4 q hh; omega
    obtain ⟨m', sb', x', T', e2, n1, n2, _, n3, n4⟩ := ihj (i + 1) m1 sb1 (Vi l t out) x1 T1 (by omega) k1 k2 c1 hsb1
    have ed : Vis l (kids.drop i) out = Vis l (kids.drop (i + 1)) (Vi l t out) := by
      rw [List.drop_eq_getElem_cons hil, Vis_cons, et, Int.toNat_natCast]
    refine ⟨m', sb', x', T', ?_, by rw [ed]; exact n1, n2, fun _ _ => .inr trivial, by rw [ed]; exact n3, fun q hq => by rw [n4 q hq, k4 q (by omega)]⟩
    have e1 : AC cfg 75 ([.int .i64 kids[i]] ++ [.ptr (b + 3) 0, .ptr b 0, .ptr (b + 4) 0, .ptr (b + 1) 0]) m = some (.tup [], m1) := by rw [et]; exact e1
    rw [L75_3_eq, binA_lss, Option.bind_some, ifA_dec, if_pos (by omega), idx_IA hil, Option.bind_some, loadA_one, Option.bind_some, ld_box h.h4, Option.bind_some, show fnOf (.fn 75 [.ptr (b + 3) 0, .ptr b 0, .ptr (b + 4) 0, .ptr (b + 1) 0]) = some (75, [.ptr (b + 3) 0, .ptr b 0, .ptr (b + 4) 0, .ptr (b + 1) 0]) from rfl, Option.bind_some, callK_in rfl rfl rfl, e1, Option.bind_some, i_add1 (by omega), Option.bind_some]
    exact e2
theorem A75 (h0 : St8 m0 s F arms most l) (hb : b = m0.length) (g : GoodL ar l) (hll : l.length ≤ 100000) : ∀ id, id < l.length → At75 l m0 b s id := by
  intro id
  induction id using Nat.strongRecOn with
  | ind id ih =>
    intro hid m sb out x T h hsl hc hsb
    have hsb0 := hsb id (Nat.le_refl _)
    have ld3 := ld_box h.h3
    have hixa : indexAddrA none (.arr (b + 2) 0 sb.length none) (.int .i64 id) = some (.ptr (b + 2) id) := index_arr (by omega)
    have st := h0.app h.fr
    obtain ⟨p, na, TT, st, _⟩ := st
    have hs := st.hs
    have hnx := na_idx st.hn hid
    have lb := ld_bool h.h2 (i := id) (by omega)
    have b2 := get_lt h.h2
    have b4 := get_lt h.h4
    have hsm : s < m0.length := by
      obtain ⟨p, na, TT, st0, _⟩ := h0
      exact get_lt st0.hs
    by_cases hm : id ∈ out
    · rw [decide_eq_true hm] at hsb0
      refine ⟨m, sb, x, T, ?_, ?_, hsl, ?_, fun _ _ => rfl⟩
      · rw [T75, ld3, Option.bind_some, hixa, Option.bind_some, lb, Option.bind_some, hsb0, ifA_t]
      · rw [Vi_eq g hid, if_pos hm]; exact h
      · rw [Vi_eq g hid, if_pos hm]; exact hsb
    · rw [decide_eq_false hm] at hsb0
      have sbq := st_bool (y := true) h.h2 (i := id) (by omega)
      have h' : LS m0 (m.set (b + 2) (some (.obj false ((sb.set id true).map .bool)))) b s (sb.set id true) out x T := by
        refine ⟨hb, h.fr.set _ (.inr (by omega)), ?_, ?_, ?_, ?_, ?_, ?_, h.hT⟩
        · rw [g_sne (by omega)]; exact h.h0
        · rw [g_sne (by omega)]; exact h.h1
        · exact g_seq rfl b2
        · rw [g_sne (by omega), List.length_set]; exact h.h3
        · rw [g_sne (by omega)]; exact h.h4
        · exact gr_move h.gr fun y hy => g_sne (by have := h.hT y hy; omega)
      have hsb' : ∀ q, q < id → (sb.set id true).getD q false = decide (q ∈ out) := fun q hq => by
        rw [List.getD_eq_getElem?_getD, List.getElem?_set_ne (by omega), ← List.getD_eq_getElem?_getD]
        exact hsb q (by omega)
      have hkA := kids_IA (st.ok _ (List.getElem_mem hid))
      have hkl : l[id].kids.length ≤ 1000 := by
        rcases st.ok _ (List.getElem_mem hid) with ⟨_, h2, _⟩ | ⟨_, _, _, _, h5⟩
        · rw [h2]; simp
        · omega
      obtain ⟨m1, sb1, x1, T1, e1, k1, k2, _, k3, k4⟩ := W75 g hid hll (fun k hk => ih k hk (by omega)) (z := kz l[id]) (o := ko l[id]) (kids := l[id].kids) (fun k hk => kid_lt g hid k hk) hkl l[id].kids.length 0 _ _ out x T (by omega) h' (by rw [List.length_set]; exact hsl) hc hsb'
      rw [List.drop_zero] at k1 k3
      obtain ⟨c1, c2, r, c3, c4⟩ := Vis_facts g hid l[id].kids (fun k hk => kid_lt g hid k hk) out hc
      have hl2 : (Vis l l[id].kids out).length ≤ l.length := by
        exact nodup_lt _ _ c1.nd c1.lt
      obtain ⟨x2, m2, T2, ea, g2, f2, gg2⟩ := gr_app (b := 8) k1.gr (by simp; omega) (by omega) (.int .i64 (id : Nat))
      have hne : ∀ q, q < b + 5 → q ∉ T1 := fun q hq hT => by have := k1.hT q hT; omega
      have ge : ∀ q, q < b + 5 → m2.get q = m1.get q := fun q hq => f2.get q (by have := get_lt k1.h4; omega) (hne q hq)
      have hl1 := get_lt k1.h4
      have hl12 := f2.len
      have g21 : m2.get (b + 1) = some (.obj true [x1]) := by rw [ge _ (by omega)]; exact k1.h1
      obtain ⟨xz, xo, rfl, _⟩ := gr_out g2
      have sx := st_box (v := .lst none xz xo ((Vis l l[id].kids out).map Int.ofNat |>.map (AV.int .i64) |>.append [.int .i64 id])) g21 rfl rfl
      have eV : Vi l id out = Vis l l[id].kids out ++ [id] := by rw [Vi_eq g hid, if_neg hm]
      have sx : storeA none m2 (.ptr (b + 1) 0) (.lst none xz xo (((Vis l l[id].kids out).map Int.ofNat).map (AV.int .i64) ++ [.int .i64 id])) = some (m2.set (b + 1) (some (.obj true [.lst none xz xo (((Vis l l[id].kids out).map Int.ofNat).map (AV.int .i64) ++ [.int .i64 id])]))) := st_box g21 rfl rfl
      refine ⟨m2.set (b + 1) (some (.obj true [.lst none xz xo (((Vis l l[id].kids out).map Int.ofNat).map (AV.int .i64) ++ [.int .i64 id])])), sb1, .lst none xz xo (((Vis l l[id].kids out).map Int.ofNat).map (AV.int .i64) ++ [.int .i64 id]), T2, ?_, ?_, k2, ?_, ?_⟩
      · rw [T75, ld3, Option.bind_some, hixa, Option.bind_some, lb, Option.bind_some, hsb0, ifA_f]
        rw [Option.bind_some, hixa, Option.bind_some, sbq, Option.bind_some, ld_box h'.h0, Option.bind_some, nil_ptr, Option.bind_some, fa_ptr, Option.bind_some]
        have ldna : loadA none (m.set (b + 2) (some (.obj false ((sb.set id true).map .bool)))) (.ptr s (0 + 1)) = some na := by
          rw [ld_ptr, g_sne (by omega), hs]; rfl
        rw [ldna, Option.bind_some, hnx, Option.bind_some, f1v, Option.bind_some, l2v, Option.bind_some, hkA, len_IA, Option.bind_some]
        have e1 : L75_3 (.int .i64 id) (.ptr (b + 4) 0) (.ptr (b + 1) 0) (IA (kz l[id]) (ko l[id]) l[id].kids) (.int .i64 l[id].kids.length) (.int .i64 0) (m.set (b + 2) (some (.obj false ((sb.set id true).map .bool)))) (K75_3 (finK cfg.P f75.results.toList)) = _ := e1
        rw [e1, K75_3_x0, ld_box k1.h1, Option.bind_some, build_int, Option.bind_some, ea, Option.bind_some, sx, Option.bind_some]
      · rw [eV]
        refine ⟨hb, (Fr.trans k1.fr f2 fun y hy => .inr (by have := k1.hT y hy; omega)).set _ (.inr (by omega)), ?_, ?_, ?_, ?_, ?_, ?_, ?_⟩
        · rw [g_sne (by omega), ge _ (by omega)]; exact k1.h0
        · exact g_seq rfl (by omega)
        · rw [g_sne (by omega), ge _ (by omega)]; exact k1.h2
        · rw [g_sne (by omega), ge _ (by omega)]; exact k1.h3
        · rw [g_sne (by omega), ge _ (by omega)]; exact k1.h4
        · rw [List.map_append, List.map_append]
          refine gr_move g2 fun y hy => g_sne ?_
          rcases gg2 y hy with hh | hh
          · have := k1.hT y hh; omega
          · omega
        · intro y hy
          rcases gg2 y hy with hh | hh
          · exact k1.hT y hh
          · omega
      · intro q hq
        rw [eV]
        by_cases hqi : q = id
        · subst hqi
          rw [k4 q (Nat.le_refl _), List.getD_eq_getElem?_getD, List.getElem?_set_self (by omega), Option.getD_some]
          exact (decide_eq_true (by simp)).symm
        · rw [k3 q (by omega)]
          refine decide_eq_decide.2 ⟨fun hh => List.mem_append_left _ hh, fun hh => ?_⟩
          rcases List.mem_append.1 hh with hh | hh
          · exact hh
          · exact absurd (by simpa using hh) hqi
      · intro q hq
        rw [k4 q (by omega), List.getD_eq_getElem?_getD, List.getElem?_set_ne (by omega), ← List.getD_eq_getElem?_getD]
theorem make_bool (m : Mem) (n : Nat) (h : n ≤ 100000) : makeA none 4 none (.bool false) 1 m (.int .i64 n) (.int .i64 n) = some (.arr m.length 0 n none, m ++ [some (Ent.obj false ((List.replicate n false).map .bool))]) := by
  have h3 : (n : Int) * 1 ≤ 281474976710656 := by omega
  have h4 : (n : Int) ≤ 9223372036854775807 := by omega
  have h5 : (0 : Int) ≤ n := by omega
  simp only [makeA, newAt, zeros, Int.le_refl, if_true, Int.toNat_natCast, List.map_replicate]
  rw [if_pos ⟨h5, trivial, h3, h4⟩]
theorem A61 (h0 : St8 m0 s F arms most l) (g : GoodL ar l) (hll : l.length ≤ 100000) {id : Nat} (hid : id < l.length) : ∃ (m' : Mem) (x : AV) (T : List Nat), AC cfg 61 [.ptr s 0, .int .i64 id] m0 = some (x, m') ∧ GR 3 m' x (((Vi l id []).map Int.ofNat).map (AV.int .i64)) T ∧ Fr m0 m' [] := by
  have hx := h0
  obtain ⟨p, na, TT, h, _⟩ := hx
  have hs := h.hs
  have hsl := get_lt hs
  have hlen : lenA false na = some (.int .i64 l.length) := by
    cases h.hn with
    | none => rfl
    | some t l ht => rw [lenA_lst, List.length_map]
  have mk := fun m => make_bool m l.length hll
  generalize hM : (List.set ((List.set (((m0 ++ [some (Ent.obj true [.ptr s 0])]) ++ [some (Ent.obj true [.lst none true .full []])]) ++ [some (Ent.obj false ((List.replicate l.length false).map .bool))] ++ [some (Ent.obj true [.lst none true .full []])]) (m0.length + 1 + 1 + 1) (some (Ent.obj true [.arr (m0.length + 1 + 1) 0 l.length none]))) ++ [some (Ent.obj true [.nilf])]) (m0.length + 1 + 1 + 1 + 1) (some (Ent.obj true [.fn 75 [.ptr (m0.length + 1 + 1 + 1) 0, .ptr m0.length 0, .ptr (m0.length + 1 + 1 + 1 + 1) 0, .ptr (m0.length + 1) 0]]))) = M
  have ls : LS m0 M m0.length s (List.replicate l.length false) [] (.lst none true .full []) [] := by
    rw [← hM]
    refine ⟨rfl, ?_, (by simp (disch := (first | assumption | omega | (simp only [List.length_append, List.length_set, List.length_cons, List.length_nil]; first | done | omega))) only [resv1, g_lt, g_eq, g_sne, g_seq]; first | done | rfl), (by simp (disch := (first | assumption | omega | (simp only [List.length_append, List.length_set, List.length_cons, List.length_nil]; first | done | omega))) only [resv1, g_lt, g_eq, g_sne, g_seq]; first | done | rfl), (by simp (disch := (first | assumption | omega | (simp only [List.length_append, List.length_set, List.length_cons, List.length_nil]; first | done | omega))) only [resv1, g_lt, g_eq, g_sne, g_seq]; first | done | rfl), ?_, (by simp (disch := (first | assumption | omega | (simp only [List.length_append, List.length_set, List.length_cons, List.length_nil]; first | done | omega))) only [resv1, g_lt, g_eq, g_sne, g_seq]; first | done | rfl), .none, by simp⟩
    · exact ((((((Fr.app m0 _ _).snoc _).snoc _).snoc _).set _ (.inr (by omega))).snoc _).set _ (.inr (by omega))
    · rw [List.length_replicate]; exact (by simp (disch := (first | assumption | omega | (simp only [List.length_append, List.length_set, List.length_cons, List.length_nil]; first | done | omega))) only [resv1, g_lt, g_eq, g_sne, g_seq]; first | done | rfl)
  obtain ⟨m', sb', x', T', e, k1, _, _, _⟩ := A75 h0 rfl g hll id hid M (List.replicate l.length false) [] (.lst none true .full []) [] ls (by simp) cl_nil (fun i hi => by
    rw [List.getD_eq_getElem?_getD, List.getElem?_replicate, if_pos (by omega)]; rfl)
  refine ⟨m', x', T', ?_, k1.gr, k1.fr⟩
  rw [T61]
  repeat ((with_reducible (first | apply bs | apply bsy)); (focus (first | (simp (disch := (first | assumption | omega | (simp only [List.length_append, List.length_set, List.length_cons, List.length_nil]; first | done | omega))) only [List.all_cons, List.all_nil, Bool.and_true, Bool.and_self, beq_self_eq_true, resv1, List.length_map, ld_v3, ld_v1, binA_eql, binA_neq, binA_lss, binA_leq, binA_gtr, binA_geq, loadA_one, un_not, ld_ptr, st_ptr, putE1, objE_obj, Option.bind_some, cut1, cut3, cut4, nil_ptr, fa_ptr, g_lt, g_eq, g_sne, g_seq, new_n, box_n, List.getElem?_cons_zero, List.getElem?_cons_succ, ex0, ex1, Sh.size, cells_int, aok_int, cells_bool, aok_bool, cells_str, aok_str, cells_lst, aok_lst, cells_ptr, aok_ptr, cells_arr, aok_arr, cells_fn, aok_fn, cells_mref, aok_mref, cells_nilp, aok_nilp, cells_agg, shOk_n, shOk_s, lenA_lst, List.length_cons, List.length_nil, if_true, putAt, List.take_succ_cons, List.take_zero, List.drop_succ_cons, List.drop_zero, List.cons_append, List.nil_append, List.append_nil, Nat.zero_add, Nat.reduceAdd, Nat.reduceLeDiff, Nat.le_refl, List.drop_nil, List.take_nil, List.length_append, List.length_set, hs, hlen, mk, box_p]; first | done | rfl) | rfl)); try dsimp only)
  have en : (newAt none (m0 ++ [some (Ent.obj true [.ptr s 0])]) .resv).1 = m0.length + 1 := by simp [new_n]
  rw [callK_in rfl rfl rfl, hM, List.singleton_append, e, Option.bind_some, en]
  dsimp only
  rw [ld_box k1.h1, Option.bind_some]
end
end Go.Ab

/- List: the nodes of a diagram, each with the places of its kids. -/
set_option linter.unusedVariables false
set_option linter.unusedSimpArgs false
set_option linter.unusedSectionVars false
set_option maxRecDepth 100000
namespace Go.Ab
open Go.Proofs Go.Proofs.Tryd

def pe : Nat → List Nat → List (AV × AV)
  | _, [] => []
  | k, i :: l => (.int .i64 i, .int .i64 k) :: pe (k + 1) l
theorem pe_app (n : Nat) : ∀ (l : List Nat) (k : Nat), pe k (l ++ [n]) = pe k l ++ [(.int .i64 n, .int .i64 (k + l.length : Nat))]
  | [], k => rfl
  | x :: l, k => by
    rw [List.cons_append, pe, pe, pe_app n l (k + 1)]
    simp only [List.cons_append, List.length_cons]
    congr 5
    omega
theorem pe_len : ∀ (l : List Nat) (k : Nat), (pe k l).length = l.length
  | [], _ => rfl
  | _ :: l, k => by rw [pe, List.length_cons, pe_len l, List.length_cons]
theorem pe_find {n : Nat} : ∀ (l : List Nat) (k : Nat), (pe k l).find? (fun p => keyB p.1 (.int .i64 n)) = if n ∈ l then some (.int .i64 n, .int .i64 (k + l.idxOf n : Nat)) else none
  | [], k => rfl
  | x :: l, k => by
    have hk : keyB (.int .i64 (x : Int)) (.int .i64 (n : Int)) = decide (x = n) := by
      simp only [keyB, atomB, decide_true, Bool.true_and]
      exact decide_eq_decide.2 (by omega)
    rw [pe, List.find?_cons, hk]
    by_cases he : x = n
    · subst he
      simp
    · rw [decide_eq_false he]
      simp only []
      rw [pe_find l (k + 1)]
      have : n ∈ x :: l ↔ n ∈ l := ⟨fun h => (List.mem_cons.1 h).resolve_left (fun e => he e.symm), List.mem_cons_of_mem _⟩
      by_cases hm : n ∈ l
      · rw [if_pos hm, if_pos (this.2 hm), List.idxOf_cons, cond_eq_ite, if_neg (by simpa using he)]
        congr 3
        omega
      · rw [if_neg hm, if_neg (fun h => hm (this.1 h))]
theorem keyOk_i {n : Nat} (h : n ≤ 1000000) : keyOkA (.int .i64) (.int .i64 n) = true := by
  have h1 : IntKind.min .i64 ≤ (n : Int) := by show (-9223372036854775808 : Int) ≤ n; omega
  have h2 : (n : Int) ≤ IntKind.max .i64 := by show (n : Int) ≤ 9223372036854775807; omega
  simp only [keyOkA, intW, wfI, decide_eq_true h1, decide_eq_true h2, decide_true, Bool.and_self]
theorem look_i {m : Mem} {p n : Nat} {l : List Nat} (hp : m.get p = some (.mp (.int .i64) (pe 0 l))) (hn : n ≤ 1000000) (hm : n ∈ l) (z : AV) : lookA (.int .i64) z m (.mref p) (.int .i64 n) = some (.int .i64 (l.idxOf n : Nat), true) := by
  have h1 : mpA m (.int .i64) (.mref p) = some (p, pe 0 l) := by simp [mpA, hp]
  unfold lookA
  rw [h1]
  simp only [Option.bind_some, keyOk_i hn, if_true, lookE, pe_find l 0, if_pos hm, Nat.zero_add]
theorem upd_i {m : Mem} {p n : Nat} {l : List Nat} (hp : m.get p = some (.mp (.int .i64) (pe 0 l))) (hn : n ≤ 1000000) (hm : n ∉ l) (hl : l.length ≤ 100000) : updA (.int .i64) m (.mref p) (.int .i64 n) (.int .i64 l.length) = some (m.set p (some (.mp (.int .i64) (pe 0 (l ++ [n]))))) := by
  have h1 : mpA m (.int .i64) (.mref p) = some (p, pe 0 l) := by simp [mpA, hp]
  have h3 : (pe 0 l).any (fun p => keyB p.1 (.int .i64 n)) = false := by
    have := pe_find (n := n) l 0
    rw [if_neg hm, List.find?_eq_none] at this
    rw [List.any_eq_false]
    exact this
  unfold updA
  rw [h1, Option.bind_some, if_pos ⟨keyOk_i hn, rfl, by rw [pe_len]; unfold maxLen; omega⟩, pe_app]
  simp only [putE, h3, Nat.zero_add]
theorem nr_app {e : Nat} {m : Mem} {x : AV} {l : List ND} {T : List Nat} (h : NR e m x l T) (hl : l.length ≤ 100000) (n : ND) : ∃ x' m' T', appA none false e (some 3) 40 m x (.lst (some 3) false .full [n.av]) = some (x', m') ∧ NR e m' x' (l ++ [n]) T' ∧ Fr m m' T ∧ Gr m T T' := by
  have h2 : (l.length + 1) * 40 ≤ roomA := by unfold roomA; omega
  cases h with
  | none =>
    refine ⟨.lst (some 3) false (.tok m.length e) [n.av], m ++ [some (Ent.tok 1 3)], [m.length], ?_, .some _ [n] (by simp (disch := (first | assumption | omega | (simp only [List.length_append, List.length_set, List.length_cons, List.length_nil]; first | done | omega))) only [resv1, g_lt, g_eq, g_sne, g_seq]; first | done | rfl), Fr.app m _ _, fun k hk => ?_⟩
    · have h2 : 40 ≤ roomA := by unfold roomA; omega
      simp [appA, h2, newAt, Sh.size]
    · obtain rfl : k = m.length := by simpa using hk
      exact .inr (Nat.le_refl _)
  | some t es ht =>
    have htl := get_lt ht
    refine ⟨.lst (some 3) false (.tok t e) (l.map ND.av ++ [n.av]), m.set t (some (Ent.tok (l.length + 1) 3)), [t], ?_, ?_, (Fr.refl m [t]).set _ (.inl (by simp)), Gr.refl _ _⟩
    · simp [appA, ht, Sh.size, h2]
    · have e3 : l.map ND.av ++ [n.av] = (l ++ [n]).map ND.av := by simp
      rw [e3]
      refine .some t (l ++ [n]) ?_
      rw [g_seq rfl htl, List.length_append]; rfl
/-- A row's parts strip to a node's kids. -/
theorem strip_gr {m : Mem} {x : AV} {ks : List Int} {T : List Nat} (h : GR 3 m x (ks.map (AV.int .i64)) T) {n : ND} (hk : n.kids = ks) (hn : n.ok) (hne : ¬ n.var < 0 → ks ≠ []) : ∃ z o, x = .lst none z o (n.kids.map (AV.int .i64)) ∧ stripA (.lst none z o (n.kids.map (AV.int .i64))) = kidsA n := by
  subst hk
  generalize he : n.kids.map (AV.int .i64) = es at h
  cases h with
  | none =>
    refine ⟨true, .full, rfl, ?_⟩
    unfold kidsA
    rw [if_pos]
    · rfl
    · refine Decidable.byContradiction fun hv => hne hv (List.map_eq_nil_iff.1 he)
  | some t es ht hne2 =>
    refine ⟨false, .tok t 3, rfl, ?_⟩
    unfold kidsA
    rw [if_neg, he]
    · rfl
    · intro hv
      rcases hn with ⟨_, h2, _⟩ | ⟨h1, _⟩
      · rw [h2] at he
        exact hne2 he.symm
      · omega
/-! ### The walk over the ids -/
section
variable {m0 : Mem} {s : Nat} {F : List Nat} {arms : AV} {most : Int} {l : List ND} {ar : List Int}
theorem W25k {pm c : Nat} {p : List Nat} {v leaf : Int} {kids : List Int} {x0 : AV} (hp0 : p.length ≤ 100000) (hpb : ∀ y ∈ p, y ≤ 1000000) {m1 : Mem} (hc : c < m1.length) (hpm : pm < m1.length) (hne : pm ≠ c) {z : Bool} {o : Own} (hk : ∀ k ∈ kids, ∃ t : Nat, k = t ∧ t ∈ p) (hkl : kids.length ≤ 1000) (hp : m1.get pm = some (.mp (.int .i64) (pe 0 p))) (x6 x7 x22 x23 x24 : AV) (hx6 : x6 = .mref pm) (K : Ex → St → Option (AV × Mem)) : ∀ (j i : Nat) (m : Mem) (x : AV) (T : List Nat), i + j = kids.length → Fr m1 m [c] → m.get c = some (.obj true [.int .i64 v, x, .int .i64 leaf]) → GR 3 m x (((kids.take i).map fun k => ((p.idxOf k.toNat : Nat) : Int)).map (AV.int .i64)) T → (∀ y ∈ T, m1.length ≤ y) →
    ∃ (m' : Mem) (x' : AV) (T' : List Nat), L25_13 x0 x6 x7 (.ptr c 0) x22 x23 x24 (IA z o kids) (.int .i64 kids.length) (.int .i64 i) m (K25_13 K) = K25_13 K (.exit 2) (O25_13 x0 x6 x7 (.ptr c 0) x22 x23 x24 m') ∧ Fr m1 m' [c] ∧ m'.get c = some (.obj true [.int .i64 v, x', .int .i64 leaf]) ∧ GR 3 m' x' ((kids.map fun k => ((p.idxOf k.toNat : Nat) : Int)).map (AV.int .i64)) T' ∧ ∀ y ∈ T', m1.length ≤ y := by
  subst hx6
  intro j
  induction j with
  | zero =>
    intro i m x T hi f hg hr hT
    rw [List.take_of_length_le (by omega)] at hr
    refine ⟨m, x, T, ?_, f, hg, hr, hT⟩
    rw [L25_13_eq, binA_lss, Option.bind_some, ifA_dec, if_neg (by omega)]
  | succ j ih =>
    intro i m x T hi f hg hr hT
    have hil : i < kids.length := by omega
    obtain ⟨t, et, ht⟩ := hk _ (List.getElem_mem hil)
    have hcl := get_lt hg
    have hpg : m.get pm = some (.mp (.int .i64) (pe 0 p)) := (f.get _ hpm (by simpa using hne)).trans hp
    have lk := look_i hpg (hpb t ht) ht (.int .i64 0)
    obtain ⟨x2, m2, T2, ea, g2, f2, gg2⟩ := gr_app (b := 8) hr (by simp; omega) (by omega) (.int .i64 (p.idxOf t : Nat))
    have hcT : c ∉ T := fun h => by have := hT c h; omega
    have g2c : m2.get c = some (.obj true [.int .i64 v, x, .int .i64 leaf]) := (f2.get _ hcl hcT).trans hg
    obtain ⟨xz, xo, rfl, _⟩ := gr_out g2
    have st : storeA none m2 (.ptr c (0 + 1)) (.lst none xz xo (((kids.take i).map fun k => ((p.idxOf k.toNat : Nat) : Int)).map (AV.int .i64) ++ [.int .i64 (p.idxOf t : Nat)])) = some (m2.set c (some (.obj true [.int .i64 v, .lst none xz xo (((kids.take i).map fun k => ((p.idxOf k.toNat : Nat) : Int)).map (AV.int .i64) ++ [.int .i64 (p.idxOf t : Nat)]), .int .i64 leaf]))) := by
      rw [st_ptr, g2c, objE_obj, Option.bind_some]; rfl
    have hcl2 := get_lt g2c
    have ek : (((kids.take i).map fun k => ((p.idxOf k.toNat : Nat) : Int)).map (AV.int .i64) ++ [.int .i64 (p.idxOf t : Nat)]) = ((kids.take (i + 1)).map fun k => ((p.idxOf k.toNat : Nat) : Int)).map (AV.int .i64) := by
      rw [List.take_succ_eq_append_getElem hil, List.map_append, List.map_append, et]; rfl
    obtain ⟨m', x', T', e, k⟩ := ih (i + 1) (m2.set c (some (.obj true [.int .i64 v, .lst none xz xo (((kids.take i).map fun k => ((p.idxOf k.toNat : Nat) : Int)).map (AV.int .i64) ++ [.int .i64 (p.idxOf t : Nat)]), .int .i64 leaf]))) _ T2 (by omega) ((Fr.trans f f2 fun y hy => .inr (hT y hy)).set _ (.inl (by simp))) (g_seq rfl hcl2) (by
      rw [← ek]
      exact gr_move g2 fun y hy => g_sne (by
        rcases gg2 y hy with hh | hh
        · have := hT y hh; omega
        · have := f.len; omega)) (fun y hy => by
      rcases gg2 y hy with hh | hh
      · exact hT y hh
      · have := f.len; omega)
    refine ⟨m', x', T', ?_, k⟩
    have ldx : loadA none m (.ptr c (0 + 1)) = some x := by rw [ld_ptr, hg]; rfl
    rw [L25_13_eq, binA_lss, Option.bind_some, ifA_dec, if_pos (by omega), idx_IA hil, Option.bind_some, loadA_one, Option.bind_some, fa_ptr, Option.bind_some, ldx, Option.bind_some, et, lk, Option.bind_some, build_int, Option.bind_some, ea, Option.bind_some, Option.bind_some, st, Option.bind_some, i_add1 (by omega), Option.bind_some]
    exact e
theorem nd_ok (g : GoodL ar l) (hll : l.length ≤ 100000) {p : List Nat} (hp : p.length ≤ 100000) {id : Nat} (hid : id < l.length) : (nd l p id).ok := by
  unfold nd
  rw [getD_at hid]
  rcases g.ok _ (List.getElem_mem hid) with ⟨a1, a2, a3⟩ | ⟨a1, a2, a3, a4, a5⟩
  · refine .inl ⟨a1, ?_, a3⟩
    simp only [a2]; rfl
  · refine .inr ⟨a1, a2, a3, fun k hk => ?_, by simpa using a5⟩
    obtain ⟨q, _, rfl⟩ := List.mem_map.1 hk
    have := List.idxOf_le_length (a := q.toNat) (l := p)
    omega
theorem cl_pre {p q : List Nat} (h : Cl l (p ++ q)) : Cl l p := by
  refine ⟨(List.nodup_append.1 h.nd).1, fun j hj => h.lt j (List.mem_append_left _ hj), fun i hi hj k hk => ?_⟩
  have hi2 : i < (p ++ q).length := by simp; omega
  have e : (p ++ q)[i] = p[i] := List.getElem_append_left hi
  have hj2 : (p ++ q)[i] < l.length := by rw [e]; exact hj
  have := h.cl i hi2 hj2 k (by
    have : ∀ (y : Nat) (hy : y < l.length), y = p[i] → k ∈ l[y].kids := fun y hy ey => by subst ey; exact hk
    exact this _ hj2 e)
  rwa [List.take_append_of_le_length (by omega)] at this
theorem W25 (h0 : St8 m0 s F arms most l) (g : GoodL ar l) (hll : l.length ≤ 100000) (hkn : kidsNe l) {pm : Nat} (hpm : m0.length = pm) {z : Bool} {o : Own} {ids : List Nat} (hc : Cl l ids) : ∀ (q p : List Nat) (m : Mem) (y : AV) (T : List Nat), ids = p ++ q → Fr m0 m [] → m.get pm = some (.mp (.int .i64) (pe 0 p)) → NR 44 m y (mapN l p) T → (∀ k ∈ T, pm < k) →
    ∃ (m' : Mem) (y' : AV) (T' : List Nat), L25_8 (.ptr s 0) (.mref pm) y (NI z o ids) (.int .i64 ids.length) (.int .i64 p.length) m (K25_8 (finK cfg.P f25.results.toList)) = some (.tup [y', .int .i64 0], m') ∧ NR 44 m' y' (mapN l ids) T' ∧ Fr m0 m' [] := by
  have hil : ids.length ≤ l.length := nodup_lt _ _ hc.nd hc.lt
  intro q
  induction q with
  | nil =>
    intro p m y T hpq f hpg hn hT
    rw [List.append_nil] at hpq
    subst hpq
    refine ⟨m, y, T, ?_, hn, f⟩
    rw [L25_8_eq, binA_lss, Option.bind_some, ifA_dec, if_neg (by omega), K25_8_x0]
  | cons id q ihq =>
    intro p m y T hpq f hpg hn hT
    have hcp : Cl l p := by rw [hpq] at hc; exact cl_pre hc
    have hid : id < l.length := hc.lt id (by rw [hpq]; simp)
    have hplen : p.length < ids.length := by rw [hpq]; simp
    have hnot : id ∉ p := fun h => by
      rw [hpq] at hc
      exact (List.nodup_append.1 hc.nd).2.2 id h id List.mem_cons_self rfl
    have hkp : ∀ k ∈ l[id].kids, k.toNat ∈ p := fun k hk => by
      rw [hpq] at hc
      have e : (p ++ id :: q)[p.length]'(by simp) = id := by simp
      have := hc.cl p.length (by simp) (by rw [e]; exact hid) k (by
        have : ∀ (y : Nat) (hy : y < l.length), y = id → k ∈ l[y].kids := fun y hy ey => by subst ey; exact hk
        exact this _ _ e)
      simpa using this
    have hix : indexAddrA none (NI z o ids) (.int .i64 p.length) = some (.vptr [.int .i64 id]) := by
      rw [NI, idx_IA (by simpa using hplen)]
      congr 3
      simp [hpq]
    have hpml := get_lt hpg
    have up := upd_i hpg (n := id) (by omega) hnot (by omega)
    have st := h0.app f
    obtain ⟨pp, na, TT, st, hFF⟩ := st
    have hs := st.hs
    have hsm : s < m0.length := h0.lt s (by rw [hFF]; simp)
    have hnx := na_idx st.hn hid
    have hkA := kids_IA (st.ok _ (List.getElem_mem hid))
    have hkl : l[id].kids.length ≤ 1000 := by
      rcases st.ok _ (List.getElem_mem hid) with ⟨_, h2, _⟩ | ⟨_, _, _, _, h5⟩
      · rw [h2]; simp
      · omega
    have hb : buildA (.agg [(.int .i64 0), (.lst none true .full []), (.int .i64 0)]) [(0, none, .int .i64 l[id].var), (2, none, .int .i64 l[id].leaf)] = some (.agg [.int .i64 l[id].var, .lst none true .full [], .int .i64 l[id].leaf]) := rfl
    generalize hM : List.set (List.set ((m.set pm (some (.mp (.int .i64) (pe 0 (p ++ [id]))))) ++ [some Ent.resv]) m.length (some (Ent.obj true [.int .i64 0, .lst none true .full [], .int .i64 0]))) m.length (some (Ent.obj true [.int .i64 l[id].var, .lst none true .full [], .int .i64 l[id].leaf])) = M
    have fM : Fr m0 M [] := by
      rw [← hM]
      exact (((f.set _ (.inr (by omega))).snoc _).set _ (.inr (by omega))).set _ (.inr (by omega))
    have lM : M.length = m.length + 1 := by rw [← hM]; simp
    have fM2 : Fr m M [pm] := by
      rw [← hM]
      exact ((((Fr.refl m [pm]).set _ (.inl (by simp))).snoc _).set _ (.inr (by omega))).set _ (.inr (by omega))
    have gc : Mem.get M m.length = some (Ent.obj true [.int .i64 l[id].var, .lst none true .full [], .int .i64 l[id].leaf]) := by rw [← hM]; exact (by simp (disch := (first | assumption | omega | (simp only [List.length_append, List.length_set, List.length_cons, List.length_nil]; first | done | omega))) only [resv1, g_lt, g_eq, g_sne, g_seq]; first | done | rfl)
    have gp : Mem.get M pm = some (.mp (.int .i64) (pe 0 (p ++ [id]))) := by rw [← hM]; exact (by simp (disch := (first | assumption | omega | (simp only [List.length_append, List.length_set, List.length_cons, List.length_nil]; first | done | omega))) only [resv1, g_lt, g_eq, g_sne, g_seq]; first | done | rfl)
    have hkp' : ∀ k ∈ l[id].kids, ∃ t : Nat, k = t ∧ t ∈ p ++ [id] := fun k hk => by
      obtain ⟨t, rfl, _⟩ := kid_lt g hid k hk
      exact ⟨t, rfl, List.mem_append_left _ (by simpa using hkp _ hk)⟩
    obtain ⟨m2, xk, Tk, e13, f2, gc2, gk, hTk⟩ := W25k (x0 := .ptr s 0) (pm := pm) (c := m.length) (p := p ++ [id]) (v := l[id].var) (leaf := l[id].leaf) (kids := l[id].kids) (z := kz l[id]) (o := ko l[id]) (m1 := M) (by simp; omega) (fun y hy => by
      have : y < l.length := by
        rcases List.mem_append.1 hy with h | h
        · exact hcp.lt y h
        · obtain rfl : y = id := by simpa using h
          exact hid
      omega) (by omega) (by omega) (by omega) hkp' hkl gp (.mref pm) y (NI z o ids) (.int .i64 ids.length) (.int .i64 p.length) rfl (K25_8 (finK cfg.P f25.results.toList)) l[id].kids.length 0 M _ [] (by omega) (Fr.refl _ _) gc .none (by simp)
    have hndk : (nd l p id).kids = l[id].kids.map fun k => (((p ++ [id]).idxOf k.toNat : Nat) : Int) := by
      rw [← nd_app hid hkp [id]]
      unfold nd
      rw [getD_at hid]
    have hndv : (nd l p id).var = l[id].var ∧ (nd l p id).leaf = l[id].leaf := by
      unfold nd
      rw [getD_at hid]
      exact ⟨rfl, rfl⟩
    have hok := nd_ok g hll (p := p) (by omega) hid
    obtain ⟨kz', ko', rfl, hstr⟩ := strip_gr gk hndk hok (fun hv => by
      rw [hndv.1] at hv
      have := hkn _ (List.getElem_mem hid) hv
      simpa using this)
    have hbs := bsl_nd l[id].var l[id].leaf kz' ko' ((nd l p id).kids.map (AV.int .i64))
    rw [hstr, ← hndv.1, ← hndv.2] at hbs
    have hbs : buildSliceA (some 3) [.agg [.int .i64 (nd l p id).var, .lst none kz' ko' ((nd l p id).kids.map (AV.int .i64)), .int .i64 (nd l p id).leaf]] = some (.lst (some 3) false .full [(nd l p id).av]) := hbs
    have fm2 : Fr m m2 [pm] := Fr.trans fM2 f2 fun x hx => by
      obtain rfl : x = m.length := by simpa using hx
      exact .inr (Nat.le_refl _)
    have n2 : NR 44 m2 y (mapN l p) T := nr_move hn fun k hk => fm2.get k (nr_lt hn k hk) (by have := hT k hk; simp; omega)
    obtain ⟨y3, m3, T3, ea, n3, f3, gg3⟩ := nr_app n2 (by unfold mapN; rw [List.length_map]; omega) (nd l p id)
    rw [← mapN_snoc hcp hid hkp] at n3
    have f03 : Fr m0 m3 [] := Fr.trans (Fr.trans fM f2 fun x hx => by
      obtain rfl : x = m.length := by simpa using hx
      have := f.len
      exact .inr this) f3 fun x hx => .inr (by have := hT x hx; omega)
    have lm2 := f2.len
    have gp3 : m3.get pm = some (.mp (.int .i64) (pe 0 (p ++ [id]))) := by
      rw [f3.get pm (by omega) (fun h => by have := hT pm h; omega), f2.get pm (by omega) (by simp; omega)]
      exact gp
    obtain ⟨m', y', T', e, k⟩ := ihq (p ++ [id]) m3 y3 T3 (by rw [hpq, List.append_assoc]; rfl) f03 gp3 n3 (fun x hx => by
      rcases gg3 x hx with hh | hh
      · exact hT x hh
      · omega)
    refine ⟨m', y', T', ?_, k⟩
    have ld3 : loadA (some 3) m2 (.ptr m.length 0) = some (.agg [.int .i64 (nd l p id).var, .lst none kz' ko' ((nd l p id).kids.map (AV.int .i64)), .int .i64 (nd l p id).leaf]) := by
      rw [ld_ptr, gc2, hndv.1, hndv.2]; rfl
    have e13 : L25_13 (.ptr s 0) (.mref pm) y (.ptr m.length 0) (NI z o ids) (.int .i64 ids.length) (.int .i64 p.length) (IA (kz l[id]) (ko l[id]) l[id].kids) (.int .i64 l[id].kids.length) (.int .i64 0) M (K25_13 (K25_8 (finK cfg.P f25.results.toList))) = _ := e13
    rw [L25_8_eq, binA_lss, Option.bind_some, ifA_dec, if_pos (by omega)]
    repeat ((with_reducible (first | apply bs | apply bsy)); (focus (first | (simp (disch := (first | assumption | omega | (simp only [List.length_append, List.length_set, List.length_cons, List.length_nil]; first | done | omega))) only [List.all_cons, List.all_nil, Bool.and_true, Bool.and_self, beq_self_eq_true, resv1, List.length_map, ld_v3, ld_v1, binA_eql, binA_neq, binA_lss, binA_leq, binA_gtr, binA_geq, loadA_one, un_not, ld_ptr, st_ptr, putE1, objE_obj, Option.bind_some, cut1, cut3, cut4, nil_ptr, fa_ptr, g_lt, g_eq, g_sne, g_seq, new_n, box_n, List.getElem?_cons_zero, List.getElem?_cons_succ, ex0, ex1, Sh.size, cells_int, aok_int, cells_bool, aok_bool, cells_str, aok_str, cells_lst, aok_lst, cells_ptr, aok_ptr, cells_arr, aok_arr, cells_fn, aok_fn, cells_mref, aok_mref, cells_nilp, aok_nilp, cells_agg, shOk_n, shOk_s, lenA_lst, List.length_cons, List.length_nil, if_true, putAt, List.take_succ_cons, List.take_zero, List.drop_succ_cons, List.drop_zero, List.cons_append, List.nil_append, List.append_nil, Nat.zero_add, Nat.reduceAdd, Nat.reduceLeDiff, Nat.le_refl, List.drop_nil, List.take_nil, List.length_append, List.length_set, hix, up, hs, hnx, f0v, f1v, f2v, l2v, hb, new_s, hkA, len_IA]; first | done | rfl) | rfl)); try dsimp only)
    have en : (newAt (some (List.set m pm (some (Ent.mp (.int .i64) (pe 0 (p ++ [id]))))).length) (reserve (List.set m pm (some (Ent.mp (.int .i64) (pe 0 (p ++ [id]))))) 1) .resv).1 = m.length := by rw [new_s]; simp
    rw [en, hM, e13, K25_13_x2, ld3, Option.bind_some, hbs, Option.bind_some, ea, Option.bind_some, i_add1 (by omega), Option.bind_some]
    rw [List.length_append] at e
    exact e
theorem good_kn (g : GoodL ar l) : kidsNe l := fun n hn hv => by
  obtain ⟨i, hi, rfl⟩ := List.getElem_of_mem hn
  obtain ⟨k, hk, _⟩ := g.dif i hi (by omega)
  exact List.ne_nil_of_mem hk
theorem A25 (h0 : St8 m0 s F arms most l) (g : GoodL ar l) (hll : l.length ≤ 100000) (hm : most ≠ 0) {id : Nat} (hid : id < l.length) : ∃ (m' : Mem) (y : AV) (T : List Nat), AC cfg 25 [.ptr s 0, .int .i64 id] m0 = some (.tup [y, .int .i64 0], m') ∧ NR 44 m' y (mapN l (Vi l id [])) T ∧ Fr m0 m' [] := by
  have e50 := A50 h0 hm
  have e56 := A56 h0 id
  rw [decide_eq_true (by omega)] at e56
  have f1 := Fr.app m0 (some (Ent.mp (.int .i64) [])) []
  obtain ⟨m1, x, T, e61, gx, f2⟩ := A61 (h0.app f1) g hll hid
  have f3 : Fr m0 m1 [] := Fr.trans f1 f2 fun _ h => by cases h
  obtain ⟨c1, _, _⟩ := Vi_facts g id hid [] cl_nil
  obtain ⟨xz, xo, rfl, _⟩ := gr_out gx
  have gp : m1.get m0.length = some (.mp (.int .i64) (pe 0 [])) := by
    rw [f2.get _ (by simp) (by simp)]; exact (by simp (disch := (first | assumption | omega | (simp only [List.length_append, List.length_set, List.length_cons, List.length_nil]; first | done | omega))) only [resv1, g_lt, g_eq, g_sne, g_seq]; first | done | rfl)
  obtain ⟨m', y, T', e, k⟩ := W25 h0 g hll (good_kn g) (pm := m0.length) rfl (z := xz) (o := xo) c1 (Vi l id []) [] m1 (.lst none true .full []) [] rfl f3 gp .none (by simp)
  refine ⟨m', y, T', ?_, k⟩
  have hl : lenA false (.lst none xz xo (((Vi l id []).map Int.ofNat).map (AV.int .i64))) = some (.int .i64 (Vi l id []).length) := by
    rw [lenA_lst]; simp
  rw [T25, e50, Option.bind_some, ifA_f, e56, Option.bind_some, un_not, Option.bind_some, Bool.not_true, ifA_f]
  have e61 : AC cfg 61 [.ptr s 0, .int .i64 id] (newAt none m0 (.mp (.int .i64) [])).2 = _ := e61
  rw [e61, Option.bind_some, hl, Option.bind_some]
  exact e
end
end Go.Ab

/- The reference's list of a table, by value. -/
set_option linter.unusedVariables false
set_option linter.unusedSimpArgs false
set_option linter.unusedSectionVars false
set_option maxRecDepth 100000
namespace Go.Ab
open Go.Proofs Go.Proofs.Tryd

theorem st_new3' {m : Mem} {a b c a' b' c' : AV} (hs : shOk (some 3) (.agg [a', b', c']) = true) : storeA (some 3) (m ++ [some (Ent.obj true [a, b, c])]) (.ptr m.length 0) (.agg [a', b', c']) = some (m ++ [some (Ent.obj true [a', b', c'])]) := by
  rw [st_ptr, g_eq rfl, objE_obj, Option.bind_some]
  simp [putE1, Sh.size, hs, putAt, AV.cells]
theorem nr_appS {e : Nat} {m : Mem} {x : AV} {l : List ND} {T : List Nat} (h : NR e m x l T) (hl : l.length ≤ 100000) (n : ND) : ∃ x' m' T', appA (some m.length) false e (some 3) 40 (m ++ [some Ent.resv]) x (.lst (some 3) false .full [n.av]) = some (x', m') ∧ NR e m' x' (l ++ [n]) T' ∧ Fr m m' T ∧ Gr m T T' := by
  have h2 : (l.length + 1) * 40 ≤ roomA := by unfold roomA; omega
  cases h with
  | none =>
    refine ⟨.lst (some 3) false (.tok m.length e) [n.av], (m ++ [some Ent.resv]).set m.length (some (Ent.tok 1 3)), [m.length], ?_, .some _ [n] (by simp (disch := (first | assumption | omega | (simp only [List.length_append, List.length_set, List.length_cons, List.length_nil]; first | done | omega))) only [resv1, g_lt, g_eq, g_sne, g_seq]; first | done | rfl), (Fr.app m _ _).set _ (.inr (Nat.le_refl _)), fun k hk => ?_⟩
    · have h2 : 40 ≤ roomA := by unfold roomA; omega
      simp [appA, h2, newAt, Sh.size]
    · obtain rfl : k = m.length := by simpa using hk
      exact .inr (Nat.le_refl _)
  | some t es ht =>
    have htl := get_lt ht
    have ht' : Mem.get (m ++ [some Ent.resv]) t = some (.tok l.length 3) := by rw [g_lt htl]; exact ht
    refine ⟨.lst (some 3) false (.tok t e) (l.map ND.av ++ [n.av]), (m ++ [some Ent.resv]).set t (some (Ent.tok (l.length + 1) 3)), [t], ?_, ?_, (Fr.app m _ [t]).set _ (.inl (by simp)), Gr.refl _ _⟩
    · simp [appA, ht', Sh.size, h2]
    · have e3 : l.map ND.av ++ [n.av] = (l ++ [n]).map ND.av := by simp
      rw [e3]
      refine .some t (l ++ [n]) ?_
      rw [g_seq rfl (by simp; omega), List.length_append]; rfl
theorem fz_node (a b : Int) (z : Bool) (o : Own) (ks : List AV) : Fz (.agg [.int .i64 a, .lst none z o ks, .int .i64 b]) (.agg [.int .i64 a, stripA (.lst none z o ks), .int .i64 b]) := fun m => by cases o <;> rfl
theorem nr_lst {e : Nat} {m : Mem} {x : AV} {l : List ND} {T : List Nat} (h : NR e m x l T) : ∃ sh z o es, x = .lst sh z o es := by
  cases h with
  | none => exact ⟨_, _, _, _, rfl⟩
  | some t l ht => exact ⟨_, _, _, _, rfl⟩
/-- The search, and the putting behind. -/
theorem A70t {m : Mem} {b q : Nat} {arms x : AV} {L : List ND} {T : List Nat} {n : ND} {z : Bool} {o : Own} (hbg : m.get b = some (.obj true [arms, x])) (h : NR 39 m x L T) (hbT : b ∉ T) (hqb : q ≠ b) (hqT : q ∉ T) (hq : m.get q = some (.obj true [.int .i64 n.var, .lst none z o (n.kids.map (AV.int .i64)), .int .i64 n.leaf]))
    (hk : stripA (.lst none z o (n.kids.map (AV.int .i64))) = kidsA n) (hn : n.ok) (hL : ∀ y ∈ L, y.ok) (hl : L.length ≤ 100000) :
    ∃ (m' : Mem) (x' : AV) (T' : List Nat), L70_18 (.ptr b 0) (.ptr q 0) x (.int .i64 L.length) (.int .i64 0) m (K70_18 (finK cfg.P f70.results.toList)) = some (.int .i64 (L.idxOf n : Nat), m') ∧ m'.get b = some (.obj true [arms, x']) ∧ NR 39 m' x' (ins L n) T' ∧ Fr m m' (b :: T) ∧ Gr m T T' ∧ b ∉ T' := by
  have hbl := get_lt hbg
  have hql := get_lt hq
  have hav : AV.agg [.int .i64 n.var, kidsA n, .int .i64 n.leaf] = n.av := rfl
  have W : ∀ (j i : Nat) (m1 : Mem), i + j = L.length → (∀ t (ht : t < L.length), t < i → L[t] ≠ n) → Fr m m1 [] →
      ∃ m2, L70_18 (.ptr b 0) (.ptr q 0) x (.int .i64 L.length) (.int .i64 i) m1 (K70_18 (finK cfg.P f70.results.toList)) = (if n ∈ L then some (.int .i64 (L.idxOf n : Nat), m2) else K70_18 (finK cfg.P f70.results.toList) (.exit 4) (O70_18 (.ptr b 0) (.ptr q 0) m2)) ∧ Fr m m2 [] := by
    intro j
    induction j with
    | zero =>
      intro i m1 hi hne f
      have hnm : n ∉ L := fun hm => by
        obtain ⟨t, ht, e⟩ := List.getElem_of_mem hm
        exact hne t ht (by omega) e
      refine ⟨m1, ?_, f⟩
      rw [L70_18_eq, binA_lss, Option.bind_some, ifA_dec, if_neg (by omega), if_neg hnm]
    | succ j ih =>
      intro i m1 hi hne f
      have hil : i < L.length := by omega
      have hidx := nr_idx h hil
      have bxi := box_av L[i] m1 (get_len m1)
      have f2 : Fr m (m1 ++ [some (Ent.obj true [.int .i64 L[i].var, kidsA L[i], .int .i64 L[i].leaf])]) [] := f.snoc _
      have gq : Mem.get (m1 ++ [some (Ent.obj true [.int .i64 L[i].var, kidsA L[i], .int .i64 L[i].leaf])]) q = _ := (f2.get q hql (by simp)).trans hq
      have ld1 : loadA (some 3) (m1 ++ [some (Ent.obj true [.int .i64 L[i].var, kidsA L[i], .int .i64 L[i].leaf])]) (.ptr q 0) = some (.agg [.int .i64 n.var, .lst none z o (n.kids.map (AV.int .i64)), .int .i64 n.leaf]) := by
        rw [ld_ptr, gq]; rfl
      have ld2 : loadA (some 3) (m1 ++ [some (Ent.obj true [.int .i64 L[i].var, kidsA L[i], .int .i64 L[i].leaf])]) (.ptr m1.length 0) = some L[i].av := by
        rw [ld_ptr, g_eq rfl]; rfl
      have p60 : pcall (AP cfg) none (m1 ++ [some (Ent.obj true [.int .i64 L[i].var, kidsA L[i], .int .i64 L[i].leaf])]) 60 [.agg [.int .i64 n.var, .lst none z o (n.kids.map (AV.int .i64)), .int .i64 n.leaf], L[i].av] = some (.bool (decide (n = L[i])), m1 ++ [some (Ent.obj true [.int .i64 L[i].var, kidsA L[i], .int .i64 L[i].leaf])]) := by
        rw [pcall2 (fz_node _ _ _ _ _) (fz_av _), hk, hav, V60 hn (hL _ (List.getElem_mem hil))]; rfl
      have e0 : L70_18 (.ptr b 0) (.ptr q 0) x (.int .i64 L.length) (.int .i64 i) m1 (K70_18 (finK cfg.P f70.results.toList)) = ifA (.bool (decide (n = L[i]))) (some (.int .i64 i, m1 ++ [some (Ent.obj true [.int .i64 L[i].var, kidsA L[i], .int .i64 L[i].leaf])])) (L70_18 (.ptr b 0) (.ptr q 0) x (.int .i64 L.length) (.int .i64 (i + 1 : Nat)) (m1 ++ [some (Ent.obj true [.int .i64 L[i].var, kidsA L[i], .int .i64 L[i].leaf])]) (K70_18 (finK cfg.P f70.results.toList))) := by
        rw [L70_18_eq, binA_lss, Option.bind_some, ifA_dec, if_pos (by omega), hidx, Option.bind_some, ld_v3, Option.bind_some, new_n, new_n]
        dsimp only
        rw [bxi, Option.bind_some, ld1, Option.bind_some, ld2, Option.bind_some, p60, Option.bind_some, i_add1 (by omega), Option.bind_some, K70_18_ret]
      rw [e0, ifA_dec]
      by_cases he : n = L[i]
      · have hm : n ∈ L := he ▸ List.getElem_mem hil
        have hix : L.idxOf n = i := idxOf_first hil he.symm hne
        refine ⟨_, ?_, f2⟩
        rw [if_pos he, if_pos hm, hix]
      · rw [if_neg he]
        exact ih (i + 1) _ (by omega) (fun t ht hti => by
          rcases Nat.lt_or_ge t i with hh | hh
          · exact hne t ht hh
          · obtain rfl : t = i := by omega
            exact fun e => he e.symm) f2
  obtain ⟨m2, e2, f2⟩ := W L.length 0 m (by omega) (fun _ _ h => by omega) (Fr.refl _ _)
  have e2 : L70_18 (.ptr b 0) (.ptr q 0) x (.int .i64 L.length) (.int .i64 0) m (K70_18 (finK cfg.P f70.results.toList)) = _ := e2
  rw [e2]
  have gb2 : m2.get b = some (.obj true [arms, x]) := (f2.get b hbl (by simp)).trans hbg
  by_cases hm : n ∈ L
  · rw [if_pos hm, ins, if_pos hm]
    exact ⟨m2, x, T, rfl, gb2, nr_move h fun k hk => f2.get k (nr_lt h k hk) (by simp), f2.mono (by simp), Gr.refl _ _, hbT⟩
  · rw [if_neg hm, ins, if_neg hm, idxOf_not hm]
    have gq2 : Mem.get m2 q = some (.obj true [.int .i64 n.var, .lst none z o (n.kids.map (AV.int .i64)), .int .i64 n.leaf]) := (f2.get q hql (by simp)).trans hq
    have h2 : NR 39 m2 x L T := nr_move h fun k hk => f2.get k (nr_lt h k hk) (by simp)
    obtain ⟨x3, m3, T3, ea, n3, f3, gg3⟩ := nr_appS h2 hl n
    have hbs := bsl_nd n.var n.leaf z o (n.kids.map (AV.int .i64))
    rw [hk, hav] at hbs
    have hb2l := get_lt gb2
    have hq2l := get_lt gq2
    have gb3 : m3.get b = some (.obj true [arms, x]) := (f3.get b hb2l hbT).trans gb2
    have hb3l := get_lt gb3
    have ldx : loadA none (reserve m2 1) (.ptr b (0 + 1)) = some x := by rw [resv1, ld_ptr, g_lt hb2l, gb2]; rfl
    have ldq : loadA (some 3) (reserve m2 1) (.ptr q 0) = some (.agg [.int .i64 n.var, .lst none z o (n.kids.map (AV.int .i64)), .int .i64 n.leaf]) := by rw [resv1, ld_ptr, g_lt hq2l, gq2]; rfl
    obtain ⟨sh3, z3, o3, es3, rfl⟩ := nr_lst n3
    have st : storeA none m3 (.ptr b (0 + 1)) (.lst sh3 z3 o3 es3) = some (m3.set b (some (.obj true [arms, .lst sh3 z3 o3 es3]))) := by
      rw [st_ptr, gb3, objE_obj, Option.bind_some]; rfl
    have ld4 : loadA none (m3.set b (some (.obj true [arms, .lst sh3 z3 o3 es3]))) (.ptr b (0 + 1)) = some (.lst sh3 z3 o3 es3) := by
      rw [ld_ptr, g_seq rfl hb3l]; rfl
    have ln := nr_len n3
    have hbT3 : b ∉ T3 := fun hh => by
      rcases gg3 b hh with h4 | h4
      · exact hbT h4
      · omega
    refine ⟨m3.set b (some (.obj true [arms, .lst sh3 z3 o3 es3])), .lst sh3 z3 o3 es3, T3, ?_, g_seq rfl hb3l, nr_move n3 fun k hk => g_sne (fun e => hbT3 (e ▸ hk)), ?_, ?_, hbT3⟩
    · rw [resv1] at ldx ldq
      rw [K70_18_x4, nil_ptr, Option.bind_some, fa_ptr, Option.bind_some, resv1, ldx, Option.bind_some, ldq, Option.bind_some, hbs, Option.bind_some, ea, Option.bind_some, Option.bind_some, fa_ptr, Option.bind_some, st, Option.bind_some, Option.bind_some, fa_ptr, Option.bind_some, ld4, Option.bind_some, ln, Option.bind_some, List.length_append, i_sub1 (by simp) (by simp; omega), Option.bind_some]
      simp
    · exact ((Fr.trans (f2.mono (F' := b :: T) (by simp)) f3 fun x hx => .inl (by simp [hx])).set _ (.inl (by simp)))
    · intro k hk
      rcases gg3 k hk with h4 | h4
      · exact .inl h4
      · have := f2.len; exact .inr (by omega)
end Go.Ab

/- The reference's list of a table, by value: place. -/
set_option linter.unusedVariables false
set_option linter.unusedSimpArgs false
set_option linter.unusedSectionVars false
set_option maxRecDepth 100000
namespace Go.Ab
open Go.Proofs Go.Proofs.Tryd

theorem gr_tok {e : Nat} {m : Mem} {x : AV} {l : List AV} {T : List Nat} (h : GR e m x l T) : ∀ k ∈ T, ∃ n, m.get k = some (.tok n 1) := by
  cases h with
  | none => simp
  | some t l ht _ =>
    intro k hk
    obtain rfl : k = t := by simpa using hk
    exact ⟨_, ht⟩
/-- What place does. -/
def At70 (l : List ND) (ar : List Int) (za : Bool) (oa : Own) (b v : Nat) : Prop := ∀ (m : Mem) (z : Bool) (o : Own) (part : List Int) (id : Nat) (out : List Nat) (x : AV) (T : List Nat), m.get b = some (.obj true [IA za oa ar, x]) → NR 39 m x (mapN l out) T → b ∉ T → Cl l out → TabV ar l id v part →
  ∃ (m' : Mem) (x' : AV) (T' : List Nat), AC cfg 70 [.ptr b 0, .int .i64 v, IA z o part] m = some (.int .i64 ((Vi l id out).idxOf id : Nat), m') ∧ m'.get b = some (.obj true [IA za oa ar, x']) ∧ NR 39 m' x' (mapN l (Vi l id out)) T' ∧ Fr m m' (b :: T) ∧ Gr m T T' ∧ b ∉ T'
section
variable {l : List ND} {ar : List Int} {za : Bool} {oa : Own} {b v : Nat}
/-- Are all parts the same? -/
theorem W70f {m : Mem} {x : AV} (hbg : m.get b = some (.obj true [IA za oa ar, x])) {z z1 : Bool} {o o1 : Own} {part first : List Int} {a n : Nat} (hv : v < ar.length) (ha : ar[v] = (a : Int)) (ha64 : a ≤ 64) (hp : part.length = a * n) (hpl : part.length ≤ 300) (hf : first.length ≤ 300) (x7 : AV) (K : Ex → St → Option (AV × Mem)) : ∀ (j k : Nat) (fr : Bool), k + j = a →
    ∃ fr' : Bool, L70_7 (.ptr b 0) (.int .i64 v) (IA z o part) x7 (.int .i64 n) (IA z1 o1 first) (.bool fr) (.int .i64 k) m K = K (.exit 0) (O70_7 (.ptr b 0) (.int .i64 v) (IA z o part) x7 (.int .i64 n) (IA z1 o1 first) (.bool fr') m) ∧ (fr' = true ↔ fr = true ∧ ∀ q, k ≤ q → q < a → _root_.Go.Ab.part part n q = first) := by
  have hix : indexAddrA none (IA za oa ar) (.int .i64 v) = some (.vptr [.int .i64 a]) := by rw [idx_IA hv, ha]
  have ldx : loadA none m (.ptr b (0 + 0)) = some (IA za oa ar) := by rw [ld_ptr, hbg]; rfl
  intro j
  induction j with
  | zero =>
    intro k fr hk
    refine ⟨fr, ?_, ⟨fun h => ⟨h, fun q h1 h2 => by omega⟩, fun h => h.1⟩⟩
    rw [L70_7_eq, nil_ptr, Option.bind_some, fa_ptr, Option.bind_some, ldx, Option.bind_some, hix, Option.bind_some, loadA_one, Option.bind_some, n_lss, Option.bind_some, ifA_dec, if_neg (by omega)]
  | succ j ih =>
    intro k fr hk
    have hka : k < a := by omega
    have hkn : (k + 1) * n ≤ part.length := by rw [hp]; exact Nat.mul_le_mul_right _ (by omega)
    have hkn0 : k * n ≤ (k + 1) * n := Nat.mul_le_mul_right _ (by omega)
    have hpk := part_len hp hka
    have hn0 : n ≤ (k + 1) * n := Nat.le_mul_of_pos_left _ (by omega)
    cases fr with
    | false =>
      obtain ⟨fr', e, h⟩ := ih (k + 1) false (by omega)
      refine ⟨fr', ?_, ?_⟩
      · rw [L70_7_eq, nil_ptr, Option.bind_some, fa_ptr, Option.bind_some, ldx, Option.bind_some, hix, Option.bind_some, loadA_one, Option.bind_some, n_lss, Option.bind_some, ifA_dec, if_pos hka, ifA_f, i_add1 (by omega), Option.bind_some]
        exact e
      · rw [h]; simp
    | true =>
      obtain ⟨fr', e, h⟩ := ih (k + 1) (decide (_root_.Go.Ab.part part n k = first)) (by omega)
      refine ⟨fr', ?_, ?_⟩
      · rw [L70_7_eq, nil_ptr, Option.bind_some, fa_ptr, Option.bind_some, ldx, Option.bind_some, hix, Option.bind_some, loadA_one, Option.bind_some, n_lss, Option.bind_some, ifA_dec, if_pos hka, ifA_t, n_mul (by omega), Option.bind_some, i_add1 (by omega), Option.bind_some, n_mul (by omega), Option.bind_some, cut_IA z o part .i64 hkn, Option.bind_some, pc79 z z1 .no o1 _ first (by omega) m, Option.bind_some, Option.bind_some]
        exact e
      · rw [h, decide_eq_true_iff]
        constructor
        · rintro ⟨h1, h2⟩
          refine ⟨rfl, fun q hq1 hq2 => ?_⟩
          by_cases hqk : q = k
          · subst hqk; exact h1
          · exact h2 q (by omega) hq2
        · rintro ⟨_, h2⟩
          exact ⟨h2 k (Nat.le_refl _) hka, fun q hq1 hq2 => h2 q (by omega) hq2⟩
/-- The kids are placed. -/
theorem W70k (g : GoodL ar l) (h1 : ∀ x ∈ ar, 1 ≤ x ∧ x ≤ 64) (hll : l.length ≤ 100000) (hv : v < ar.length) (hal : ar.length ≤ 16) {a n : Nat} (ha : ar[v] = (a : Int)) (hn : n = prodF (ar.drop (v + 1))) {id : Nat} (hid : id < l.length) (hvar : l[id].var = v) {part : List Int} (htab : TabV ar l id v part) (hpl : part.length ≤ 300) (ih : At70 l ar za oa b (v + 1)) {z : Bool} {o : Own}
    {m0 : Mem} {T0 : List Nat} {q : Nat} (hq0 : m0.length ≤ q) (hbq : b < m0.length) (hT0 : ∀ y ∈ T0, y < m0.length) : ∀ (j k : Nat) (m : Mem) (out : List Nat) (x xk : AV) (T Tk : List Nat), k + j = a → m.get b = some (.obj true [IA za oa ar, x]) → NR 39 m x (mapN l out) T → b ∉ T → Cl l out → Fr m0 m (b :: T0) → Gr m0 T0 T → q ∉ T → (∀ i ∈ l[id].kids.take k, i.toNat ∈ out) →
      m.get q = some (.obj true [.int .i64 v, xk, .int .i64 0]) → GR 3 m xk (((l[id].kids.take k).map fun i => ((out.idxOf i.toNat : Nat) : Int)).map (AV.int .i64)) Tk → (∀ y ∈ Tk, m0.length ≤ y ∧ y ∉ T) →
      ∃ (m' : Mem) (x' xk' : AV) (T' Tk' : List Nat), L70_14 (.ptr b 0) (.int .i64 v) (IA z o part) (.ptr q 0) (.int .i64 n) (.int .i64 k) m (K70_14 (finK cfg.P f70.results.toList)) = K70_14 (finK cfg.P f70.results.toList) (.exit 2) (O70_14 (.ptr b 0) (.ptr q 0) m') ∧
        m'.get b = some (.obj true [IA za oa ar, x']) ∧ NR 39 m' x' (mapN l (Vis l (l[id].kids.drop k) out)) T' ∧ b ∉ T' ∧ Fr m0 m' (b :: T0) ∧ Gr m0 T0 T' ∧ q ∉ T' ∧ m'.get q = some (.obj true [.int .i64 v, xk', .int .i64 0]) ∧ GR 3 m' xk' ((l[id].kids.map fun i => (((Vis l (l[id].kids.drop k) out).idxOf i.toNat : Nat) : Int)).map (AV.int .i64)) Tk' := by
  have hget : ar.getD v 0 = (a : Int) := by rw [List.getD_eq_getElem?_getD, List.getElem?_eq_getElem hv, Option.getD_some, ha]
  have hab := h1 _ (List.getElem_mem hv)
  have hkl : l[id].kids.length = a := by
    have := (g.var id hid (by omega)).2
    rw [hvar, Int.toNat_natCast, hget] at this
    omega
  have hp : part.length = a * n := by
    rw [htab.len, prod_step hv, hget, hn]; rfl
  have hix : indexAddrA none (IA za oa ar) (.int .i64 v) = some (.vptr [.int .i64 a]) := by rw [idx_IA hv, ha]
  intro j
  induction j with
  | zero =>
    intro k m out x xk T Tk hk hbg hnr hbT hc f gr hqT hkin hqg hgk hTk
    have hd : l[id].kids.drop k = [] := List.drop_eq_nil_of_le (by omega)
    have ht : l[id].kids.take k = l[id].kids := List.take_of_length_le (by omega)
    rw [ht] at hgk
    have ldx : loadA none m (.ptr b (0 + 0)) = some (IA za oa ar) := by rw [ld_ptr, hbg]; rfl
    refine ⟨m, x, xk, T, Tk, ?_, hbg, by rw [hd]; exact hnr, hbT, f, gr, hqT, hqg, by rw [hd]; exact hgk⟩
    rw [L70_14_eq, nil_ptr, Option.bind_some, fa_ptr, Option.bind_some, ldx, Option.bind_some, hix, Option.bind_some, loadA_one, Option.bind_some, n_lss, Option.bind_some, ifA_dec, if_neg (by omega)]
  | succ j ihj =>
    intro k m out x xk T Tk hk hbg hnr hbT hc f gr hqT hkin hqg hgk hTk
    have hka : k < a := by omega
    have hkk : k < l[id].kids.length := by omega
    have hkn : (k + 1) * n ≤ part.length := by rw [hp]; exact Nat.mul_le_mul_right _ (by omega)
    have hkn0 : k * n ≤ (k + 1) * n := Nat.mul_le_mul_right _ (by omega)
    have ldx : loadA none m (.ptr b (0 + 0)) = some (IA za oa ar) := by rw [ld_ptr, hbg]; rfl
    obtain ⟨t, et, ht⟩ := kid_lt g hid _ (List.getElem_mem hkk)
    have htk := tab_kid g (fun x hx => (h1 x hx).1) hv htab hid hvar (k := k) (by rw [hget]; omega)
    have eg : l[id].kids.getD k 0 = (t : Int) := by rw [List.getD_eq_getElem?_getD, List.getElem?_eq_getElem hkk, Option.getD_some, et]
    rw [eg, Int.toNat_natCast, ← hn] at htk
    have hbl := get_lt hbg
    have hql := get_lt hqg
    obtain ⟨m1, x1, T1, e70, gb1, n1, f1, gr1, hbT1⟩ := ih m z .no _ t out x T hbg hnr hbT hc htk
    obtain ⟨c1, c2, r, c3, c4⟩ := Vi_facts g t htk.lt out hc
    have hqb : q ≠ b := by omega
    have hq1 : m1.get q = some (.obj true [.int .i64 v, xk, .int .i64 0]) := (f1.get q hql (by simp; exact ⟨hqb, hqT⟩)).trans hqg
    have hqT1 : q ∉ T1 := fun hh => by
      rcases gr1 q hh with h4 | h4
      · exact hqT h4
      · omega
    have hgk1 : GR 3 m1 xk (((l[id].kids.take k).map fun i => (((Vi l t out).idxOf i.toNat : Nat) : Int)).map (AV.int .i64)) Tk := by
      have e : ((l[id].kids.take k).map fun i => (((Vi l t out).idxOf i.toNat : Nat) : Int)) = ((l[id].kids.take k).map fun i => ((out.idxOf i.toNat : Nat) : Int)) := List.map_congr_left fun i hi => by
        rw [c3, List.idxOf_append, if_pos (hkin i hi)]
      rw [e]
      exact gr_move hgk fun y hy => f1.get y (gr_lt hgk y hy) (by
        simp only [List.mem_cons, not_or]
        exact ⟨fun e => by have := (hTk y hy).1; omega, (hTk y hy).2⟩)
    obtain ⟨x2, m2, Tk2, ea, g2, f2, gg2⟩ := gr_app (b := 8) hgk1 (by simp; omega) (by omega) (.int .i64 ((Vi l t out).idxOf t : Nat))
    have ntk : ∀ y, y ∉ Tk → y < m1.length → m2.get y = m1.get y := fun y h h' => f2.get y h' h
    have hb1l := get_lt gb1
    have hq1l := get_lt hq1
    have hTkb : b ∉ Tk := fun h => by have := (hTk b h).1; omega
    have hTkq : q ∉ Tk := fun h => by
      have h2 := gr_lt hgk q h
      obtain ⟨k', ht'⟩ := gr_tok hgk q h
      rw [hqg] at ht'; cases ht'
    have gb2 : m2.get b = some (.obj true [IA za oa ar, x1]) := (ntk b hTkb hb1l).trans gb1
    have gq2 : m2.get q = some (.obj true [.int .i64 v, xk, .int .i64 0]) := (ntk q hTkq hq1l).trans hq1
    have hTkT1 : ∀ y ∈ Tk, y ∉ T1 := fun y hy hh => by
      rcases gr1 y hh with h4 | h4
      · exact (hTk y hy).2 h4
      · have := gr_lt hgk y hy; omega
    have n2 : NR 39 m2 x1 (mapN l (Vi l t out)) T1 := nr_move n1 fun y hy => ntk y (fun h => hTkT1 y h hy) (nr_lt n1 y hy)
    have hq2l := get_lt gq2
    obtain ⟨xz, xo, rfl, _⟩ := gr_out g2
    have st : storeA none m2 (.ptr q (0 + 1)) (.lst none xz xo (((l[id].kids.take k).map fun i => (((Vi l t out).idxOf i.toNat : Nat) : Int)).map (AV.int .i64) ++ [.int .i64 ((Vi l t out).idxOf t : Nat)])) = some (m2.set q (some (.obj true [.int .i64 v, .lst none xz xo (((l[id].kids.take k).map fun i => (((Vi l t out).idxOf i.toNat : Nat) : Int)).map (AV.int .i64) ++ [.int .i64 ((Vi l t out).idxOf t : Nat)]), .int .i64 0]))) := by
      rw [st_ptr, gq2, objE_obj, Option.bind_some]; rfl
    have ek : (((l[id].kids.take k).map fun i => (((Vi l t out).idxOf i.toNat : Nat) : Int)).map (AV.int .i64) ++ [.int .i64 ((Vi l t out).idxOf t : Nat)]) = ((l[id].kids.take (k + 1)).map fun i => (((Vi l t out).idxOf i.toNat : Nat) : Int)).map (AV.int .i64) := by
      rw [List.take_succ_eq_append_getElem hkk, List.map_append, List.map_append, et]; rfl
    have hnq : ∀ y ∈ Tk2, y ≠ q := fun y hy e => by
      rcases gg2 y hy with h4 | h4
      · exact hTkq (e ▸ h4)
      · omega
    have ed : Vis l (l[id].kids.drop k) out = Vis l (l[id].kids.drop (k + 1)) (Vi l t out) := by
      rw [List.drop_eq_getElem_cons hkk, Vis_cons, et, Int.toNat_natCast]
    have F1 : Fr m0 m1 (b :: T0) := Fr.trans f f1 fun y hy => by
      rcases List.mem_cons.1 hy with rfl | hy
      · exact .inl (by simp)
      · rcases gr y hy with h4 | h4
        · exact .inl (by simp [h4])
        · exact .inr h4
    have F2 : Fr m0 m2 (b :: T0) := Fr.trans F1 f2 fun y hy => .inr (hTk y hy).1
    obtain ⟨m', x', xk', T', Tk', e, k1, k2, k3, k4, k5, k6, k7, k8⟩ := ihj (k + 1) (m2.set q (some (.obj true [.int .i64 v, .lst none xz xo (((l[id].kids.take k).map fun i => (((Vi l t out).idxOf i.toNat : Nat) : Int)).map (AV.int .i64) ++ [.int .i64 ((Vi l t out).idxOf t : Nat)]), .int .i64 0]))) (Vi l t out) x1 _ T1 Tk2 (by omega)
      (by rw [g_sne (fun e => hqb e.symm)]; exact gb2) (nr_move n2 fun y hy => g_sne (fun e => hqT1 (e ▸ hy))) hbT1 c1 (F2.set _ (.inr hq0)) (Gr.trans f.len gr gr1) hqT1 (fun i hi => by
        rw [List.take_succ_eq_append_getElem hkk] at hi
        rcases List.mem_append.1 hi with hi | hi
        · rw [c3]; exact List.mem_append_left _ (hkin i hi)
        · obtain rfl : i = l[id].kids[k] := by simpa using hi
          rw [et, Int.toNat_natCast]; exact c2) (g_seq rfl hq2l) (by
        rw [← ek]
        exact gr_move g2 fun y hy => g_sne (hnq y hy)) (fun y hy => by
        have l1 := f1.len; have l0 := f.len
        rcases gg2 y hy with h4 | h4
        · exact ⟨(hTk y h4).1, hTkT1 y h4⟩
        · refine ⟨by omega, fun hh => ?_⟩
          have := nr_lt n1 y hh
          omega)
    refine ⟨m', x', xk', T', Tk', ?_, k1, by rw [ed]; exact k2, k3, k4, k5, k6, k7, by rw [ed]; exact k8⟩
    have ldk : loadA none m (.ptr q (0 + 1)) = some xk := by rw [ld_ptr, hqg]; rfl
    have ldk1 : loadA none m1 (.ptr q (0 + 1)) = some xk := by rw [ld_ptr, hq1]; rfl
    rw [L70_14_eq, nil_ptr, Option.bind_some, fa_ptr, Option.bind_some, ldx, Option.bind_some, hix, Option.bind_some, loadA_one, Option.bind_some, n_lss, Option.bind_some, ifA_dec, if_pos hka, fa_ptr, Option.bind_some, ldk, Option.bind_some, i_add1 (by omega), Option.bind_some, n_mul (by omega), Option.bind_some, i_add1 (by omega), Option.bind_some, n_mul (by omega), Option.bind_some, cut_IA z o part .i64 hkn, Option.bind_some, e70, Option.bind_some]
    rw [ifP_pos (by simp only [ldk1, Option.bind_some]), build_int, Option.bind_some, ea, Option.bind_some, Option.bind_some, st, Option.bind_some, Option.bind_some]
    exact e
theorem mapN_ok (g : GoodL ar l) (hll : l.length ≤ 100000) {out : List Nat} (hc : Cl l out) : ∀ y ∈ mapN l out, y.ok := fun y hy => by
  obtain ⟨i, hi, rfl⟩ := List.mem_map.1 hy
  have := nodup_lt _ _ hc.nd hc.lt
  exact nd_ok g hll (by omega) (hc.lt i hi)
theorem A70s (g : GoodL ar l) (h1 : ∀ x ∈ ar, 1 ≤ x ∧ x ≤ 64) (hll : l.length ≤ 100000) (hal : ar.length ≤ 16) (hv : v ≤ ar.length) (hpv : prodF (ar.drop v) ≤ 300) (ih : v < ar.length → At70 l ar za oa b (v + 1)) : At70 l ar za oa b v := by
  intro m z o part id out x T hbg hnr hbT hc htab
  have h1' : ∀ x ∈ ar, 1 ≤ x := fun x hx => (h1 x hx).1
  have hid := htab.lt
  have hpp : 1 ≤ prodF (ar.drop v) := prod_pos fun x hx => h1' x (List.drop_subset _ _ hx)
  have hpl := htab.len
  obtain ⟨c0, ct, ec⟩ := List.exists_cons_of_ne_nil (show part ≠ [] from fun e => by rw [e] at hpl; simp at hpl; omega)
  have hbl := get_lt hbg
  have i0 : indexAddrA none (IA z o part) (.int .i64 0) = some (.vptr [.int .i64 c0]) := by rw [ec]; exact idx_IA0 (by simp)
  have hb : buildA (.agg [(.int .i64 0), (.lst none true .full []), (.int .i64 0)]) [(0, none, (.int .i64 (-1))), (2, none, .int .i64 c0)] = some (.agg [.int .i64 (-1), .lst none true .full [], .int .i64 c0]) := rfl
  have sn := st_new3' (m := m) (a := .int .i64 0) (b := .lst none true .full []) (c := .int .i64 0) (a' := .int .i64 (-1)) (b' := .lst none true .full []) (c' := .int .i64 c0) rfl
  have f4 : Fr m (m ++ [some (Ent.obj true [.int .i64 (-1), .lst none true .full [], .int .i64 c0])]) [] := Fr.app m _ _
  generalize hm4 : m ++ [some (Ent.obj true [.int .i64 (-1), .lst none true .full [], .int .i64 c0])] = m4 at sn f4
  have gq : m4.get m.length = some (Ent.obj true [.int .i64 (-1), .lst none true .full [], .int .i64 c0]) := by rw [← hm4]; exact (by simp (disch := (first | assumption | omega | (simp only [List.length_append, List.length_set, List.length_cons, List.length_nil]; first | done | omega))) only [resv1, g_lt, g_eq, g_sne, g_seq]; first | done | rfl)
  have l4 : m4.length = m.length + 1 := by rw [← hm4]; simp
  have gb4 : m4.get b = some (.obj true [IA za oa ar, x]) := (f4.get b hbl (by simp)).trans hbg
  have n4 : NR 39 m4 x (mapN l out) T := nr_move hnr fun k hk => f4.get k (nr_lt hnr k hk) (by simp)
  have hqT : m.length ∉ T := fun h => by have := nr_lt hnr _ h; omega
  have hol : out.length ≤ l.length := nodup_lt _ _ hc.nd hc.lt
  have p78 := pc78 z o part (by rw [ec]; simp) (by omega) m4
  have e0 : AC cfg 70 [.ptr b 0, .int .i64 v, IA z o part] m = _ := T70 _ _ _ m
  rw [i0, Option.bind_some, loadA_one, Option.bind_some, hb, Option.bind_some, new_n, new_n] at e0
  dsimp only at e0
  rw [sn, Option.bind_some, p78, Option.bind_some, un_not, Option.bind_some, ec, List.headD_cons, ← ec] at e0
  have ldx0 : loadA none m4 (.ptr b (0 + 0)) = some (IA za oa ar) := by rw [ld_ptr, gb4]; rfl
  have ldx1 : loadA none m4 (.ptr b (0 + 1)) = some x := by rw [ld_ptr, gb4]; rfl
  by_cases hall : (part.all fun k => k == c0) = true
  · -- a leaf
    rw [hall, Bool.not_true, ifA_f, nil_ptr, Option.bind_some, fa_ptr, Option.bind_some, ldx1, Option.bind_some, nr_len hnr, Option.bind_some] at e0
    have hleaf := const_leaf g h1' hv htab (c := c0) (fun y hy => by simpa using List.all_eq_true.1 hall y hy)
    have hnd : nd l out id = leafN c0 := by
      unfold nd
      rw [hleaf]; rfl
    rw [getD_at hid] at hleaf
    have hkids : l[id].kids = [] := by rw [hleaf]; rfl
    have hok := nd_ok g hll (p := out) (by omega) hid
    rw [hnd] at hok
    obtain ⟨m5, x5, T5, e5, k1, k2, k3, k4, k5⟩ := A70t (n := leafN c0) (z := true) (o := .full) gb4 n4 hbT (show m.length ≠ b by omega) hqT gq rfl hok (mapN_ok g hll hc) (by unfold mapN; rw [List.length_map]; omega)
    have pr := put_ref g hc hid (by rw [hkids]; simp)
    have eV : Vi l id out = if id ∈ out then out else out ++ [id] := by rw [Vi_fold g hid hc, hkids, Vis_nil]
    rw [hnd, ← eV] at pr
    refine ⟨m5, x5, T5, ?_, k1, by rw [← pr.1]; exact k2, Fr.trans (f4.mono (by simp)) k3 fun y hy => .inl hy, Gr.trans f4.len (Gr.refl _ _) k4, k5⟩
    rw [e0, e5, pr.2]
  · rw [Bool.not_eq_true] at hall
    have hvl : v < ar.length := by
      refine Decidable.byContradiction fun hn => ?_
      have : ar.drop v = [] := List.drop_eq_nil_of_le (by omega)
      rw [this] at hpl
      have hpl : part.length = 1 := hpl
      rw [ec] at hpl hall
      have : ct = [] := by simpa using hpl
      rw [this] at hall
      simp at hall
    have hab := h1 _ (List.getElem_mem hvl)
    obtain ⟨a, ha⟩ := Int.eq_ofNat_of_zero_le (by omega : 0 ≤ ar[v])
    have hget : ar.getD v 0 = (a : Int) := by rw [List.getD_eq_getElem?_getD, List.getElem?_eq_getElem hvl, Option.getD_some, ha]
    have hix : indexAddrA none (IA za oa ar) (.int .i64 v) = some (.vptr [.int .i64 a]) := by rw [idx_IA hvl, ha]
    have hps : prodF (ar.drop v) = a * prodF (ar.drop (v + 1)) := by rw [prod_step hvl, hget]; rfl
    have hn0 : 1 ≤ prodF (ar.drop (v + 1)) := prod_pos fun x hx => h1' x (List.drop_subset _ _ hx)
    have hta : part.length = a * prodF (ar.drop (v + 1)) := by rw [hpl, hps]
    have hle : prodF (ar.drop (v + 1)) ≤ part.length := by rw [hta]; exact Nat.le_mul_of_pos_left _ (by omega)
    have hdiv : part.length / a = prodF (ar.drop (v + 1)) := by rw [hta, Nat.mul_div_cancel_left _ (by omega)]
    have hsl : sliceT none (IA z o part) none (some (.int .i64 (prodF (ar.drop (v + 1)) : Nat))) none = some (IA z .no (_root_.Go.Ab.part part (prodF (ar.drop (v + 1))) 0)) := by
      rw [slice_IA _ _ _ _ _ hle]
      unfold _root_.Go.Ab.part
      rw [Nat.zero_mul, List.drop_zero]
    have hp0 := part_len hta (k := 0) (by omega)
    obtain ⟨fr, e7, hfr⟩ := W70f (z := z) (z1 := z) (o := o) (o1 := .no) (first := _root_.Go.Ab.part part (prodF (ar.drop (v + 1))) 0) gb4 hvl ha (by omega) hta (by omega) (by omega) (.ptr m.length 0) (K70_7 (finK cfg.P f70.results.toList)) (a - 1) 1 true (by omega)
    have e7 : L70_7 (.ptr b 0) (.int .i64 v) (IA z o part) (.ptr m.length 0) (.int .i64 (prodF (ar.drop (v + 1)) : Nat)) (IA z .no (_root_.Go.Ab.part part (prodF (ar.drop (v + 1))) 0)) (.bool true) (.int .i64 1) m4 (K70_7 (finK cfg.P f70.results.toList)) = _ := e7
    rw [hall, Bool.not_false, ifA_t, len_IA, Option.bind_some, nil_ptr, Option.bind_some, fa_ptr, Option.bind_some, ldx0, Option.bind_some, hix, Option.bind_some, loadA_one, Option.bind_some, n_quo (by omega) (by omega), Option.bind_some, hdiv, hsl, Option.bind_some, e7, K70_7_x0] at e0
    have hfr' : fr = true ↔ ∀ k : Nat, (k : Int) < ar.getD v 0 → _root_.Go.Ab.part part (prodF (ar.drop (v + 1))) k = _root_.Go.Ab.part part (prodF (ar.drop (v + 1))) 0 := by
      rw [hfr, hget]
      constructor
      · rintro ⟨_, h⟩ k hk
        by_cases hk0 : k = 0
        · rw [hk0]
        · exact h k (by omega) (by omega)
      · exact fun h => ⟨rfl, fun q _ hq => h q (by omega)⟩
    by_cases hf : fr = true
    · -- the variable does not matter
      rw [hf, ifA_t, i_add1 (by omega), Option.bind_some] at e0
      have ht := free_tab g h1' hvl htab (hfr'.1 hf)
      obtain ⟨m5, x5, T5, e5, k1, k2, k3, k4, k5⟩ := ih hvl m4 z .no _ id out x T gb4 n4 hbT hc ht
      refine ⟨m5, x5, T5, ?_, k1, k2, Fr.trans (f4.mono (by simp)) k3 fun y hy => .inl hy, Gr.trans f4.len (Gr.refl _ _) k4, k5⟩
      rw [e0, e5, Option.bind_some]
    · have hff : fr = false := by simpa using hf
      have hvar := node_tab g h1' hvl htab hid (fun h => hf (hfr'.2 h))
      have hb2 : buildA (.agg [(.int .i64 0), (.lst none true .full []), (.int .i64 0)]) [(0, none, .int .i64 v)] = some (.agg [.int .i64 v, .lst none true .full [], .int .i64 0]) := rfl
      have st : storeA (some 3) m4 (.ptr m.length 0) (.agg [.int .i64 v, .lst none true .full [], .int .i64 0]) = some (m4.set m.length (some (Ent.obj true [.int .i64 v, .lst none true .full [], .int .i64 0]))) := st_agg3 gq rfl
      rw [hff, ifA_f, hb2, Option.bind_some, st, Option.bind_some] at e0
      have f5 : Fr m (m4.set m.length (some (Ent.obj true [.int .i64 v, .lst none true .full [], .int .i64 0]))) (b :: T) := (f4.mono (F' := b :: T) (by simp)).set _ (.inr (Nat.le_refl _))
      obtain ⟨m6, x6, xk, T6, Tk, e14, k1, k2, k3, k4, k5, k6, k7, k8⟩ := W70k g h1 hll hvl hal ha rfl hid hvar htab (by omega) (ih hvl) (z := z) (o := o) (m0 := m) (T0 := T) (q := m.length) (Nat.le_refl _) hbl (nr_lt hnr) a 0 (m4.set m.length (some (Ent.obj true [.int .i64 v, .lst none true .full [], .int .i64 0]))) out x (.lst none true .full []) T [] (by omega)
        (by rw [g_sne (by omega)]; exact gb4) (nr_move n4 fun y hy => g_sne (fun e => hqT (e ▸ hy))) hbT hc f5 (Gr.refl _ _) hqT (by simp) (g_seq rfl (by omega)) .none (by simp)
      rw [List.drop_zero] at k2 k8
      obtain ⟨c1, c2, r, c3, c4⟩ := Vis_facts g hid l[id].kids (fun k hk => kid_lt g hid k hk) out hc
      have hol1 := nodup_lt _ _ c1.nd c1.lt
      have hnk : (nd l (Vis l l[id].kids out) id).kids = l[id].kids.map fun i => (((Vis l l[id].kids out).idxOf i.toNat : Nat) : Int) := by
        unfold nd; rw [getD_at hid]
      have hnv : (nd l (Vis l l[id].kids out) id).var = v := by unfold nd; rw [getD_at hid]; exact hvar
      have hok := nd_ok g hll (p := Vis l l[id].kids out) (by omega) hid
      have hnl : (nd l (Vis l l[id].kids out) id).leaf = 0 := by
        rcases hok with ⟨q1, _⟩ | ⟨_, _, q3, _⟩
        · rw [hnv] at q1; omega
        · exact q3
      have hkne : l[id].kids ≠ [] := good_kn g _ (List.getElem_mem hid) (by omega)
      obtain ⟨kz', ko', rfl, hstr⟩ := strip_gr k8 hnk hok (fun _ => by simpa using hkne)
      have gq6 : m6.get m.length = some (.obj true [.int .i64 (nd l (Vis l l[id].kids out) id).var, .lst none kz' ko' ((nd l (Vis l l[id].kids out) id).kids.map (AV.int .i64)), .int .i64 (nd l (Vis l l[id].kids out) id).leaf]) := by
        rw [k7, hnv, hnl]
      obtain ⟨m7, x7, T7, e18, j1, j2, j3, j4, j5⟩ := A70t (n := nd l (Vis l l[id].kids out) id) (z := kz') (o := ko') k1 k2 k3 (show m.length ≠ b by omega) k6 gq6 hstr hok (mapN_ok g hll c1) (by unfold mapN; rw [List.length_map]; omega)
      have pr := put_ref g c1 hid c2
      rw [← Vi_fold g hid hc] at pr
      refine ⟨m7, x7, T7, ?_, j1, by rw [← pr.1]; exact j2, Fr.trans k4 j3 fun y hy => ?_, Gr.trans k4.len k5 j4, j5⟩
      · have e14 : L70_14 (.ptr b 0) (.int .i64 v) (IA z o part) (.ptr m.length 0) (.int .i64 (prodF (ar.drop (v + 1)) : Nat)) (.int .i64 0) (m4.set m.length (some (Ent.obj true [.int .i64 v, .lst none true .full [], .int .i64 0]))) (K70_14 (finK cfg.P f70.results.toList)) = _ := e14
        have ld6 : loadA none m6 (.ptr b (0 + 1)) = some x6 := by rw [ld_ptr, k1]; rfl
        rw [e0, e14, K70_14_x2, nil_ptr, Option.bind_some, fa_ptr, Option.bind_some, ld6, Option.bind_some, nr_len k2, Option.bind_some, e18, pr.2]
      · rcases List.mem_cons.1 hy with rfl | hy
        · exact .inl (by simp)
        · rcases k5 y hy with h4 | h4
          · exact .inl (by simp [h4])
          · exact .inr h4
theorem A70 (g : GoodL ar l) (h1 : ∀ x ∈ ar, 1 ≤ x ∧ x ≤ 64) (hll : l.length ≤ 100000) (hal : ar.length ≤ 16) : ∀ (d v : Nat), v + d = ar.length → prodF (ar.drop v) ≤ 300 → At70 l ar za oa b v := by
  have h1' : ∀ x ∈ ar, 1 ≤ x := fun x hx => (h1 x hx).1
  intro d
  induction d with
  | zero =>
    intro v hv hpv
    exact A70s g h1 hll hal (by omega) hpv (fun hlt => by omega)
  | succ d ih =>
    intro v hv hpv
    refine A70s g h1 hll hal (by omega) hpv (fun hlt => ih (v + 1) (by omega) ?_)
    have hab := h1 _ (List.getElem_mem hlt)
    have hps := prod_step hlt
    rw [List.getD_eq_getElem?_getD, List.getElem?_eq_getElem hlt, Option.getD_some] at hps
    have : prodF (ar.drop (v + 1)) ≤ prodF (ar.drop v) := by
      rw [hps]; exact Nat.le_mul_of_pos_left _ (by omega)
    omega
end
end Go.Ab

/- What the interpreter does, function by function. -/
set_option maxRecDepth 100000
set_option linter.unusedVariables false
namespace Go.Ab
open Go.Proofs.Tryd
/-! ### sortilege/sortilegelaw23.DiagramTells -/
noncomputable def L6_12 (x7 x9 x10 x74 x75 x76 : AV) (m : Mem) (K : Ex → St → Option (AV × Mem)) : Option (AV × Mem) := loopW (execW cfg 6 (AP cfg) (AC cfg) (c1 (c1 (c2 (c1 (c2 (c2 (c2 (c2 (c2 (c2 (c2 (c2 (bodyOf f6)))))))))))))) (cfg.mask 6 (some 12)) ⟨[.any, .any, .any, .any, .any, .any, .any, x7, .any, x9, x10, .any, .any, .any, .any, .any, .any, .any, .any, .any, .any, .any, .any, .any, .any, .any, .any, .any, .any, .any, .any, .any, .any, .any, .any, .any, .any, .any, .any, .any, .any, .any, .any, .any, .any, .any, .any, .any, .any, .any, .any, .any, .any, .any, .any, .any, .any, .any, .any, .any, .any, .any, .any, .any, .any, .any, .any, .any, .any, .any, .any, .any, .any, .any, x74, x75, x76, .any, .any, .any, .any, .any, .any, .any, .any, .any, .any, .any, .any, .any, .any, .any, .any, .any, .any, .any, .any, .any, .any, .any], m⟩ K
noncomputable abbrev K6_12_0 (K : Ex → St → Option (AV × Mem)) : Ex → St → Option (AV × Mem) := seqK (fun st => execW cfg 6 (AP cfg) (AC cfg) (c2 (c2 (c2 (c2 (c2 (c2 (c2 (c2 (c2 (bodyOf f6)))))))))) st K) K
noncomputable abbrev K6_12_1 (K : Ex → St → Option (AV × Mem)) : Ex → St → Option (AV × Mem) := blockK 0 (K6_12_0 K)
noncomputable abbrev K6_12 (K : Ex → St → Option (AV × Mem)) : Ex → St → Option (AV × Mem) := (K6_12_1 K)
theorem T6 (a0 a1 a2 : AV) (m : Mem) : AC cfg 6 [a0, a1, a2] m =
  (pcall (AP cfg) none m 11 [a0]).bind fun r1 =>
  (pcall (AP cfg) none r1.2 12 [r1.1]).bind fun r2 =>
  (binA .other .neq r2.1 (.int .i64 0)).bind fun v3 =>
  ifA v3 (
  (pcall (AP cfg) none r2.2 13 []).bind fun r4 =>
  some (r4.1, r4.2)) (
  (pcall (AP cfg) none r2.2 28 [r1.1, a1]).bind fun r5 =>
  (pcall (AP cfg) none r5.2 28 [r1.1, a2]).bind fun r6 =>
  (AC cfg 29 [r1.1, r5.1] r6.2).bind fun r7 =>
  (extractA r7.1 0).bind fun v8 =>
  (extractA r7.1 1).bind fun v9 =>
  (extractA r7.1 2).bind fun v10 =>
  (unA .not v10).bind fun v11 =>
  ifA v11 (
  some ((.bool false), r7.2)) (
  (AC cfg 30 [v8, r1.1, r6.1, (.int .i64 0)] r7.2).bind fun r12 =>
  (extractA r12.1 0).bind fun v13 =>
  (extractA r12.1 1).bind fun v14 =>
  (binA .other .neq v14 (.int .i64 0)).bind fun v15 =>
  ifA v15 (
  some ((.bool false), r12.2)) (
  (binA .other .eql v9 v13).bind fun v16 =>
  (pcall (AP cfg) none r12.2 33 [r5.1, r6.1]).bind fun r17 =>
  (binA .bl .neq v16 r17.1).bind fun v18 =>
  ifA v18 (
  some ((.bool false), r17.2)) (
  (AC cfg 34 [v8, v9, r1.1, r5.1] r17.2).bind fun r19 =>
  (unA .not r19.1).bind fun v20 =>
  ifA v20 (
  some ((.bool false), r19.2)) (
  (AC cfg 34 [v8, v13, r1.1, r6.1] r19.2).bind fun r21 =>
  (unA .not r21.1).bind fun v22 =>
  ifA v22 (
  some ((.bool false), r21.2)) (
  (pcall (AP cfg) none r21.2 35 [r1.1]).bind fun r23 =>
  (lenA false r23.1).bind fun v24 =>
  L6_12 r5.1 v8 v9 r23.1 v24 (.int .i64 0) r23.2 (K6_12 (finK cfg.P f6.results.toList)))))))) :=
(AC_eq cfg 6 [a0, a1, a2] m (fn := f6) (c := bodyOf f6) at6 rfl).trans (by kernel_rfl)
end Go.Ab

/- DiagramTells in values. -/
set_option linter.unusedVariables false
set_option linter.unusedSimpArgs false
set_option linter.unusedSectionVars false
set_option maxRecDepth 100000
namespace Go.Ab
open Go.Proofs Go.Proofs.Tryd

theorem nr_ne {e : Nat} {m : Mem} {x : AV} {l : List ND} {T : List Nat} (h : NR e m x l T) (hl : l ≠ []) : ∃ t, x = NL false (.tok t e) l := by
  cases h with
  | none => exact absurd rfl hl
  | some t l ht => exact ⟨t, rfl⟩
theorem V46 {l : List ND} {ar : List Int} (g : GoodL ar l) (h1 : ∀ x ∈ ar, 1 ≤ x ∧ x ≤ 64) (hll : l.length ≤ 100000) (hal : ar.length ≤ 16) (hp : prodF ar ≤ 300) {id : Nat} {t : List Int} (htab : TabV ar l id 0 t) (za z : Bool) (oa o : Own) :
    AP cfg 46 [IA za oa ar, IA z o t] = some (NL false .no (mapN l (Vi l id []))) := by
  have hne : mapN l (Vi l id []) ≠ [] := by
    obtain ⟨_, c2, _⟩ := Vi_facts g id htab.lt [] cl_nil
    intro e
    unfold mapN at e
    rw [List.map_eq_nil_iff] at e
    rw [e] at c2; cases c2
  have hb : buildA (.agg [(.lst none true .full []), (.lst none true .full [])]) [(0, none, IA za oa ar)] = some (.agg [IA za oa ar, .lst none true .full []]) := rfl
  have hx : boxA none (some 2) ([] : Mem) (.agg [IA za oa ar, .lst none true .full []]) = some (.ptr 0 0, [some (Ent.obj true [IA za oa ar, .lst none true .full []])]) := rfl
  obtain ⟨m', x', T', e, k1, k2, _, _, _⟩ := A70 (za := za) (oa := oa) (b := 0) g h1 hll hal ar.length 0 (by omega) hp [some (Ent.obj true [IA za oa ar, .lst none true .full []])] z o t id [] (.lst none true .full []) [] rfl .none (by simp) cl_nil htab
  obtain ⟨tk, rfl⟩ := nr_ne k2 hne
  refine AP_of (m := m') (v := NL false (.tok tk 39) (mapN l (Vi l id []))) (l := []) ?_ rfl rfl
  have e : AC cfg 70 [.ptr 0 0, .int .i64 0, IA z o t] [some (Ent.obj true [IA za oa ar, .lst none true .full []])] = _ := e
  have ld : loadA none m' (.ptr 0 (0 + 1)) = some (NL false (.tok tk 39) (mapN l (Vi l id []))) := by rw [ld_ptr, k1]; rfl
  rw [T46, hb, Option.bind_some, hx, Option.bind_some, e, Option.bind_some, nil_ptr, Option.bind_some, fa_ptr, Option.bind_some, ld, Option.bind_some]
theorem W39 {z : Bool} {o : Own} {L : List ND} (hL : L.length ≤ 100000) : ∀ (q p : List ND) (m : Mem) (x : AV) (T : List Nat), L = p ++ q → NR 39 m x p T →
    ∃ (m' : Mem) (x' : AV) (T' : List Nat), L39_3 x (NL z o L) (.int .i64 L.length) (.int .i64 p.length) m (K39_3 (finK cfg.P f39.results.toList)) = some (x', m') ∧ NR 39 m' x' L T' := by
  intro q
  induction q with
  | nil =>
    intro p m x T hpq h
    rw [List.append_nil] at hpq
    subst hpq
    refine ⟨m, x, T, ?_, h⟩
    rw [L39_3_eq, binA_lss, Option.bind_some, ifA_dec, if_neg (by omega), K39_3_x0]
  | cons n q ih =>
    intro p m x T hpq h
    have hpl : p.length < L.length := by rw [hpq]; simp
    have hat : L[p.length] = n := by simp [hpq]
    have hix := idx_NL (z := z) (o := o) hpl
    rw [hat] at hix
    have bx := box_av n m (get_len m)
    have f1 : Fr m (m ++ [some (Ent.obj true [.int .i64 n.var, kidsA n, .int .i64 n.leaf])]) [] := Fr.app m _ _
    have h2 : NR 39 (m ++ [some (Ent.obj true [.int .i64 n.var, kidsA n, .int .i64 n.leaf])]) x p T := nr_move h fun k hk => f1.get k (nr_lt h k hk) (by simp)
    obtain ⟨x3, m3, T3, ea, n3, _, _⟩ := nr_app h2 (by omega) n
    obtain ⟨m', x', T', e, k⟩ := ih (p ++ [n]) m3 x3 T3 (by rw [hpq, List.append_assoc]; rfl) n3
    refine ⟨m', x', T', ?_, k⟩
    have ld2 : loadA (some 3) (m ++ [some (Ent.obj true [.int .i64 n.var, kidsA n, .int .i64 n.leaf])]) (.ptr m.length 0) = some n.av := by
      rw [ld_ptr, g_eq rfl]; rfl
    have hbs : buildSliceA (some 3) [n.av] = some (.lst (some 3) false .full [n.av]) := bsl_av n
    rw [L39_3_eq, binA_lss, Option.bind_some, ifA_dec, if_pos (by omega), hix, Option.bind_some, ld_v3, Option.bind_some, new_n, new_n]
    dsimp only
    rw [bx, Option.bind_some, ld2, Option.bind_some, hbs, Option.bind_some, ea, Option.bind_some, i_add1 (by omega), Option.bind_some]
    rw [List.length_append] at e
    exact e
theorem V39 (z : Bool) (o : Own) (L : List ND) (hL : L.length ≤ 100000) (hne : L ≠ []) : AP cfg 39 [NL z o L] = some (NL false .no L) := by
  obtain ⟨m', x', T', e, h⟩ := W39 (z := z) (o := o) hL L [] [] (.lst none true .full []) [] rfl .none
  obtain ⟨tk, rfl⟩ := nr_ne h hne
  refine AP_of (m := m') (v := NL false (.tok tk 39) L) (l := []) ?_ rfl rfl
  rw [T39, len_NL, Option.bind_some]
  exact e
theorem A34 {m0 : Mem} {s : Nat} {F : List Nat} {arms : AV} {most : Int} {l : List ND} {ar : List Int} (h0 : St8 m0 s F arms most l) (g : GoodL ar l) (h1 : ∀ x ∈ ar, 1 ≤ x ∧ x ≤ 64) (hll : l.length ≤ 100000) (hm : most ≠ 0) (hal : ar.length ≤ 16) (hp : prodF ar ≤ 300) {id : Nat} {t : List Int} (htab : TabV ar l id 0 t) (za z : Bool) (oa o : Own) :
    ∃ m', AC cfg 34 [.ptr s 0, .int .i64 id, IA za oa ar, IA z o t] m0 = some (.bool true, m') ∧ Fr m0 m' [] := by
  obtain ⟨m1, y, T, e25, hn, f⟩ := A25 h0 g hll hm htab.lt
  obtain ⟨c1, c2, _⟩ := Vi_facts g id htab.lt [] cl_nil
  have hne : mapN l (Vi l id []) ≠ [] := by
    intro e
    unfold mapN at e
    rw [List.map_eq_nil_iff] at e
    rw [e] at c2; cases c2
  obtain ⟨tk, rfl⟩ := nr_ne hn hne
  have hlen : (mapN l (Vi l id [])).length ≤ 100000 := by
    unfold mapN; rw [List.length_map]
    have := nodup_lt _ _ c1.nd c1.lt
    omega
  have hok := mapN_ok g hll c1
  refine ⟨m1, ?_, f⟩
  rw [T34, e25, Option.bind_some, ex0, Option.bind_some, ex1, Option.bind_some, binA_eql, Option.bind_some, ifA_dec, if_pos rfl,
    pcall1 (fz_NL false (.tok tk 44) _), V39 _ _ _ hlen hne, Option.map_some, Option.bind_some,
    pcall2 (fz_IA za oa ar) (fz_IA z o t), V46 g h1 hll hal hp htab, Option.map_some, Option.bind_some, pc22 _ _ _ _ _ _ hok hok hlen, Option.bind_some, decide_eq_true rfl]
theorem pc28 (z zl : Bool) (o ol : Own) (ar l : List Int) (h1 : ar.length ≤ 16) (h2 : ∀ a ∈ ar, 1 ≤ a ∧ a ≤ 64) {N : Nat} (hN : placesF 300 1 ar = N) (hN2 : N ≤ 300) (m : Mem) : ∃ (z' : Bool) (o' : Own) (t : List Int), pcall (AP cfg) none m 28 [IA z o ar, IA zl ol l] = some (IA z' o' t, m) ∧ (z' = true → t = []) ∧ t.length = N ∧ ∀ y ∈ t, 0 ≤ y ∧ y ≤ 4 := by
  obtain ⟨z', o', t, e, h⟩ := V28 z zl o.fr ol.fr ar l h1 h2 hN hN2
  exact ⟨z', o', t, by rw [pcall2 (fz_IA z o ar) (fz_IA zl ol l), e]; rfl, h⟩
/-- Arms that few leaves: how many places. -/
theorem few_places {r : List Int} (hg : goodArms r) (he : armsE r = 0) : placesF 300 1 r = (prodF r : Nat) ∧ prodF r ≤ 300 := by
  obtain ⟨_, h2⟩ := armsE_ok he
  have := places_prod r 1 (fun a ha => (h2 a ha).1) (by omega) (by omega) (hg he)
  rw [Int.one_mul] at this
  exact ⟨this.1, by omega⟩
end Go.Ab

/- What the interpreter does, function by function. -/
set_option maxRecDepth 100000
set_option linter.unusedVariables false
namespace Go.Ab
open Go.Proofs.Tryd
/-! ### (*sortilege/diagram.Store).Apply -/
/-! ### (*sortilege/diagram.Store).Apply$1 -/
/-! ### (*sortilege/diagram.Store).both -/
/-! ### sortilege/diagram.asked -/
/-! ### (*sortilege/diagram.Store).kid -/
/-! ### (*sortilege/diagram.Store).Restrict -/
theorem T41 (a0 a1 a2 a3 : AV) (m : Mem) : AC cfg 41 [a0, a1, a2, a3] m =
  (boxA none none m a0).bind fun r1 =>
  (boxA none none r1.2 a1).bind fun r2 =>
  (boxA none none r2.2 a2).bind fun r3 =>
  (boxA none none r3.2 a3).bind fun r4 =>
  (loadA none r4.2 r1.1).bind fun v5 =>
  (AC cfg 50 [v5] r4.2).bind fun r6 =>
  ifA r6.1 (
  some ((.tup [(.int .i64 0), (.int .i64 4)]), r6.2)) (
  (loadA none r6.2 r1.1).bind fun v7 =>
  (loadA none r6.2 r2.1).bind fun v8 =>
  (AC cfg 56 [v7, v8] r6.2).bind fun r9 =>
  (unA .not r9.1).bind fun v10 =>
  ifA v10 (
  some ((.tup [(.int .i64 0), (.int .i64 1)]), r9.2)) (
  (loadA none r9.2 r3.1).bind fun v11 =>
  (binA .other .lss v11 (.int .i64 0)).bind fun v12 =>
  ifA v12 (
  some ((.tup [(.int .i64 0), (.int .i64 1)]), r9.2)) (
  (loadA none r9.2 r3.1).bind fun v13 =>
  (loadA none r9.2 r1.1).bind fun v14 =>
  (nilA v14).bind fun v15 =>
  (fieldAddrA 0 v15).bind fun v16 =>
  (loadA none r9.2 v16).bind fun v17 =>
  (lenA false v17).bind fun v18 =>
  (binA .other .geq v13 v18).bind fun v19 =>
  ifA v19 (
  some ((.tup [(.int .i64 0), (.int .i64 1)]), r9.2)) (
  (loadA none r9.2 r4.1).bind fun v20 =>
  (binA .other .lss v20 (.int .i64 0)).bind fun v21 =>
  ifA v21 (
  some ((.tup [(.int .i64 0), (.int .i64 1)]), r9.2)) (
  (loadA none r9.2 r4.1).bind fun v22 =>
  (loadA none r9.2 r1.1).bind fun v23 =>
  (nilA v23).bind fun v24 =>
  (fieldAddrA 0 v24).bind fun v25 =>
  (loadA none r9.2 v25).bind fun v26 =>
  (loadA none r9.2 r3.1).bind fun v27 =>
  (indexAddrA none v26 v27).bind fun v28 =>
  (loadA none r9.2 v28).bind fun v29 =>
  (binA .other .geq v22 v29).bind fun v30 =>
  ifA v30 (
  some ((.tup [(.int .i64 0), (.int .i64 1)]), r9.2)) (
  (loadA none r9.2 r1.1).bind fun v31 =>
  (AC cfg 52 [v31, (.fn 68 [r1.1, r2.1, r3.1, r4.1])] r9.2).bind fun r32 =>
  (extractA r32.1 0).bind fun v33 =>
  (extractA r32.1 1).bind fun v34 =>
  some ((.tup [v33, v34]), r32.2))))))) :=
(AC_eq cfg 41 [a0, a1, a2, a3] m (fn := f41) (c := bodyOf f41) at41 rfl).trans (by kernel_rfl)
/-! ### (*sortilege/diagram.Store).Restrict$1 -/
theorem T68 (a0 a1 a2 a3 : AV) (m : Mem) : AC cfg 68 [a0, a1, a2, a3] m =
  (loadA none m a0).bind fun v1 =>
  (loadA none m a1).bind fun v2 =>
  (loadA none m a2).bind fun v3 =>
  (loadA none m a3).bind fun v4 =>
  (AC cfg 69 [v1, v2, v3, v4, (.mref (newAt none m .resv).1)] (newAt none m (.mp (.int .i64) [])).2).bind fun r5 =>
  some (r5.1, r5.2) :=
(AC_eq cfg 68 [a0, a1, a2, a3] m (fn := f68) (c := bodyOf f68) at68 rfl).trans (by kernel_rfl)
/-! ### (*sortilege/diagram.Store).cut -/
def O69_10 (x0 x1 x4 x13 : AV) (m : Mem) : St := ⟨[x0, x1, .any, .any, x4, .any, .any, .any, .any, .any, .any, .any, .any, x13, .any, .any, .any, .any, .any, .any, .any, .any, .any, .any, .any, .any, .any, .any, .any, .any, .any, .any, .any, .any, .any, .any, .any, .any, .any, .any, .any, .any, .any, .any, .any, .any, .any, .any, .any, .any, .any, .any, .any, .any, .any, .any, .any, .any, .any, .any, .any, .any, .any, .any, .any, .any, .any, .any, .any, .any, .any, .any, .any, .any, .any, .any, .any, .any, .any, .any, .any, .any, .any, .any, .any], m⟩
noncomputable def L69_10 (x0 x1 x2 x3 x4 x13 x54 x55 x56 : AV) (m : Mem) (K : Ex → St → Option (AV × Mem)) : Option (AV × Mem) := loopW (execW cfg 69 (AP cfg) (AC cfg) (c1 (c1 (c2 (c1 (c2 (c2 (c2 (c2 (c2 (bodyOf f69))))))))))) (cfg.mask 69 (some 10)) ⟨[x0, x1, x2, x3, x4, .any, .any, .any, .any, .any, .any, .any, .any, x13, .any, .any, .any, .any, .any, .any, .any, .any, .any, .any, .any, .any, .any, .any, .any, .any, .any, .any, .any, .any, .any, .any, .any, .any, .any, .any, .any, .any, .any, .any, .any, .any, .any, .any, .any, .any, .any, .any, .any, .any, x54, x55, x56, .any, .any, .any, .any, .any, .any, .any, .any, .any, .any, .any, .any, .any, .any, .any, .any, .any, .any, .any, .any, .any, .any, .any, .any, .any, .any, .any, .any], m⟩ K
noncomputable abbrev K69_10_0 (K : Ex → St → Option (AV × Mem)) : Ex → St → Option (AV × Mem) := seqK (fun st => execW cfg 69 (AP cfg) (AC cfg) (c2 (c2 (c2 (c2 (c2 (c2 (bodyOf f69))))))) st K) K
noncomputable abbrev K69_10_1 (K : Ex → St → Option (AV × Mem)) : Ex → St → Option (AV × Mem) := blockK 0 (K69_10_0 K)
noncomputable abbrev K69_10 (K : Ex → St → Option (AV × Mem)) : Ex → St → Option (AV × Mem) := (K69_10_1 K)
theorem T69 (a0 a1 a2 a3 a4 : AV) (m : Mem) : AC cfg 69 [a0, a1, a2, a3, a4] m =
  (AC cfg 57 [a0, a1] m).bind fun r1 =>
  (binA .other .gtr r1.1 a2).bind fun v2 =>
  ifA v2 (
  some (a1, r1.2)) (
  (AC cfg 57 [a0, a1] r1.2).bind fun r3 =>
  (binA .other .eql r3.1 a2).bind fun v4 =>
  ifA v4 (
  (nilA a0).bind fun v5 =>
  (fieldAddrA 1 v5).bind fun v6 =>
  (loadA none r3.2 v6).bind fun v7 =>
  (indexAddrA (some 3) v7 a1).bind fun v8 =>
  (fieldAddrA 1 v8).bind fun v9 =>
  (loadA none r3.2 v9).bind fun v10 =>
  (indexAddrA none v10 a3).bind fun v11 =>
  (loadA none r3.2 v11).bind fun v12 =>
  some (v12, r3.2)) (
  (lookA (.int .i64) (.int .i64 0) r3.2 a4 a1).bind fun q13 =>
  (extractA (.tup [q13.1, .bool q13.2]) 0).bind fun v14 =>
  (extractA (.tup [q13.1, .bool q13.2]) 1).bind fun v15 =>
  ifA v15 (
  some (v14, r3.2)) (
  (nilA a0).bind fun v16 =>
  (fieldAddrA 1 v16).bind fun v17 =>
  (loadA none r3.2 v17).bind fun v18 =>
  (indexAddrA (some 3) v18 a1).bind fun v19 =>
  (fieldAddrA 1 v19).bind fun v20 =>
  (loadA none r3.2 v20).bind fun v21 =>
  (lenA false v21).bind fun v22 =>
  L69_10 a0 a1 a2 a3 a4 (.lst none true .full []) v21 v22 (.int .i64 0) r3.2 (K69_10 (finK cfg.P f69.results.toList))))) :=
(AC_eq cfg 69 [a0, a1, a2, a3, a4] m (fn := f69) (c := bodyOf f69) at69 rfl).trans (by kernel_rfl)
theorem L69_10_eq (x0 x1 x2 x3 x4 x13 x54 x55 x56 : AV) (m : Mem) (K : Ex → St → Option (AV × Mem)) : L69_10 x0 x1 x2 x3 x4 x13 x54 x55 x56 m K =
  (binA .other .lss x56 x55).bind fun v1 =>
  ifA v1 (
  (indexAddrA none x54 x56).bind fun v2 =>
  (loadA none m v2).bind fun v3 =>
  (AC cfg 69 [x0, v3, x2, x3, x4] m).bind fun r4 =>
  (buildSliceA none [r4.1]).bind fun v5 =>
  (appA none false 3 none 8 r4.2 x13 v5).bind fun r6 =>
  (binA .other .add x56 (.int .i64 1)).bind fun v7 =>
  L69_10 x0 x1 x2 x3 x4 r6.1 x54 x55 v7 r6.2 K) (
  K (.exit 0) (O69_10 x0 x1 x4 x13 m)) :=
(loopW_eq (execW_lin _) _ _ _).trans (by kernel_rfl)
theorem K69_10_x0 (x0 x1 x4 x13 : AV) (m : Mem) : K69_10 (finK cfg.P f69.results.toList) (.exit 0) (O69_10 x0 x1 x4 x13 m) =
  (nilA x0).bind fun v1 =>
  (fieldAddrA 1 v1).bind fun v2 =>
  (loadA none m v2).bind fun v3 =>
  (indexAddrA (some 3) v3 x1).bind fun v4 =>
  (fieldAddrA 0 v4).bind fun v5 =>
  (loadA none m v5).bind fun v6 =>
  (AC cfg 59 [x0, v6, x13] m).bind fun r7 =>
  (updA (.int .i64) r7.2 x4 x1 r7.1).bind fun m8 =>
  some (r7.1, m8) := by kernel_rfl
/-! ### (*sortilege/diagram.Store).Load -/
/-! ### (*sortilege/diagram.Store).Load$1 -/
/-! ### sortilege/diagram.Listed -/
end Go.Ab

/- What the interpreter does, function by function. -/
set_option maxRecDepth 100000
set_option linter.unusedVariables false
namespace Go.Ab
open Go.Proofs.Tryd
/-! ### sortilege/sortilegelaw23.DiagramApplies -/
/-! ### sortilege/sortilegelaw23.DiagramApplies$1 -/
end Go.Ab

/- Apply, by value. -/
set_option linter.unusedVariables false
set_option linter.unusedSimpArgs false
set_option linter.unusedSectionVars false
set_option maxRecDepth 100000
namespace Go.Ab
open Go.Proofs Go.Proofs.Tryd

/-- The law's own function of two leaf numbers. -/
def doF (fl : List Int) (x y : Int) : Int := if fl = [] then (if y < x then y else x) else ((fl.getD ((5 * x + y).toNat % fl.length) 0).tmod 4 + 4).tmod 4
/-! ### kid -/
def abvD (ar : List Int) (l : List ND) (id : Nat) : Int := abv ar.length (l.getD id ⟨0, [], 0⟩)
theorem getD_app {l r : List ND} {id : Nat} (h : id < l.length) : (l ++ r).getD id ⟨0, [], 0⟩ = l.getD id ⟨0, [], 0⟩ := by
  rw [List.getD_eq_getElem?_getD, List.getElem?_append_left h, ← List.getD_eq_getElem?_getD]
theorem abvD_app {ar : List Int} {l r : List ND} {id : Nat} (h : id < l.length) : abvD ar (l ++ r) id = abvD ar l id := by unfold abvD; rw [getD_app h]
theorem abvD_at {ar : List Int} {l : List ND} {id : Nat} (h : id < l.length) : abvD ar l id = abv ar.length l[id] := by unfold abvD; rw [getD_at h]
/-! ### What was found is kept -/
end Go.Ab

/- Apply, by value: both. -/
set_option linter.unusedVariables false
set_option linter.unusedSimpArgs false
set_option linter.unusedSectionVars false
set_option maxRecDepth 100000
namespace Go.Ab
open Go.Proofs Go.Proofs.Tryd

theorem pos_drop {ar : List Int} (h1 : ∀ x ∈ ar, 1 ≤ x) (v : Nat) : 1 ≤ prodF (ar.drop v) := prod_pos fun x hx => h1 x (List.drop_subset _ _ hx)
theorem prod_le {ar : List Int} (h1 : ∀ x ∈ ar, 1 ≤ x) (v : Nat) : prodF (ar.drop (v + 1)) ≤ prodF (ar.drop v) := by
  by_cases hv : v < ar.length
  · rw [prod_step hv]
    have := h1 _ (List.getElem_mem hv)
    rw [List.getD_eq_getElem?_getD, List.getElem?_eq_getElem hv, Option.getD_some]
    exact Nat.le_mul_of_pos_left _ (by omega)
  · rw [List.drop_eq_nil_of_le (by omega), List.drop_eq_nil_of_le (by omega)]
    exact Nat.le_refl _
theorem prod_mono {ar : List Int} (h1 : ∀ x ∈ ar, 1 ≤ x) (v : Nat) : ∀ d, prodF (ar.drop (v + d)) ≤ prodF (ar.drop v)
  | 0 => Nat.le_refl _
  | d + 1 => Nat.le_trans (prod_le h1 (v + d)) (prod_mono h1 v d)
/-- The leaf numbers that a node reaches. -/
def Rng (ar : List Int) (l : List ND) (a : Nat) : Prop := ∀ y, Asg ar y → 0 ≤ S l y a ∧ S l y a ≤ 4
structure EOk (ar : List Int) (fl : List Int) (l : List ND) (e : (Nat × Nat) × Nat) : Prop where
  a : e.1.1 < l.length
  b : e.1.2 < l.length
  r : e.2 < l.length
  top : ∀ w : Int, w ≤ abvD ar l e.1.1 → w ≤ abvD ar l e.1.2 → w ≤ abvD ar l e.2
  val : ∀ y, Asg ar y → S l y e.2 = doF fl (S l y e.1.1) (S l y e.1.2)
theorem EOk.app {ar fl : List Int} {l : List ND} (g : GoodL ar l) {e : (Nat × Nat) × Nat} (h : EOk ar fl l e) (r : List ND) : EOk ar fl (l ++ r) e :=
  ⟨by have := h.a; simp; omega, by have := h.b; simp; omega, by have := h.r; simp; omega, fun w h1 h2 => by
    rw [abvD_app h.a] at h1; rw [abvD_app h.b] at h2; rw [abvD_app h.r]; exact h.top w h1 h2, fun y hy => by
    rw [S_app g r hy _ h.a, S_app g r hy _ h.b, S_app g r hy _ h.r]; exact h.val y hy⟩
theorem Rng.app {ar : List Int} {l : List ND} (g : GoodL ar l) {a : Nat} (ha : a < l.length) (h : Rng ar l a) (r : List ND) : Rng ar (l ++ r) a := fun y hy => by
  rw [S_app g r hy _ ha]; exact h y hy
section
variable {s pm bf : Nat} {zs zf : Bool} {os oF : Own} {ar fl : List Int}
end
end Go.Ab

/- The cofactor of a node, told by what is there. Plain Lean. -/
set_option linter.unusedVariables false
set_option linter.unusedSimpArgs false
namespace Go.Ab

def kidAt (l : List ND) (id i : Nat) : Nat := ((l.getD id ⟨0, [], 0⟩).kids.getD i 0).toNat
/-- In the store l, node id with arm k of variable v is node c; all that it needs is there. -/
inductive Cut (ar : List Int) (v k : Nat) (l : List ND) : Nat → Nat → Prop
  | hi (id : Nat) (h : id < l.length) (hv : (v : Int) < abvD ar l id) : Cut ar v k l id id
  | here (id : Nat) (h : id < l.length) (hv : abvD ar l id = v) : Cut ar v k l id (kidAt l id k)
  | lo (id : Nat) (cs : List Nat) (c : Nat) (h : id < l.length) (hv : abvD ar l id < v) (hl : cs.length = (l.getD id ⟨0, [], 0⟩).kids.length) (hk : ∀ i, i < cs.length → Cut ar v k l (kidAt l id i) (cs.getD i 0)) (hn : nodeR l (l.getD id ⟨0, [], 0⟩).var (cs.map Int.ofNat) = (((c : Nat) : Int), l)) : Cut ar v k l id c
section
variable {ar : List Int} {v k : Nat} {l : List ND}
theorem list_eq_getD' {a b : List Nat} (hl : a.length = b.length) (h : ∀ i, i < a.length → a.getD i 0 = b.getD i 0) : a = b := by
  apply List.ext_getElem hl
  intro i h1 h2
  have := h i h1
  rwa [List.getD_eq_getElem?_getD, List.getElem?_eq_getElem h1, List.getD_eq_getElem?_getD, List.getElem?_eq_getElem h2, Option.getD_some, Option.getD_some] at this
theorem Cut.lt {id c : Nat} (h : Cut ar v k l id c) : id < l.length := by cases h <;> assumption
theorem Cut.det {id c : Nat} (h : Cut ar v k l id c) : ∀ c', Cut ar v k l id c' → c = c' := by
  induction h with
  | hi id h hv =>
    intro c' h'
    cases h' with
    | hi => rfl
    | here _ _ hv' => omega
    | lo _ cs _ _ hv' => omega
  | here id h hv =>
    intro c' h'
    cases h' with
    | hi _ _ hv' => omega
    | here => rfl
    | lo _ cs _ _ hv' => omega
  | lo id cs c h hv hl hk hn ih =>
    intro c' h'
    cases h' with
    | hi _ _ hv' => omega
    | here _ _ hv' => omega
    | lo _ cs' _ _ hv' hl' hk' hn' =>
      have e : cs = cs' := list_eq_getD' (by omega) fun i hi => ih i hi _ (hk' i (by omega))
      subst e
      rw [hn'] at hn
      have := (Prod.mk.inj hn).1
      omega
theorem ins_same {l : List ND} {n : ND} (h : ins l n = l) : n ∈ l := by
  unfold ins at h
  split at h
  · assumption
  · have := congrArg List.length h
    simp at this
theorem nodeR_app {w : Int} {ks : List Int} {c : Int} (h : nodeR l w ks = (c, l)) (r : List ND) : nodeR (l ++ r) w ks = (c, l ++ r) := by
  unfold nodeR at h ⊢
  split at h
  · rename_i hh
    rw [if_pos hh, (Prod.mk.inj h).1]
  · rename_i hh
    rw [if_neg hh]
    obtain ⟨h1, h2⟩ := Prod.mk.inj h
    have hm := ins_same h2
    have hm2 : nodeN w ks ∈ l ++ r := List.mem_append_left _ hm
    rw [List.idxOf_append, if_pos hm, h1, ins, if_pos hm2]
theorem nodeR_done {w : Int} {ks : List Int} {c : Int} {l l' : List ND} (h : nodeR l w ks = (c, l')) : nodeR l' w ks = (c, l') := by
  unfold nodeR at h ⊢
  split at h
  · rename_i hh
    rw [if_pos hh]
    obtain ⟨h1, h2⟩ := Prod.mk.inj h
    rw [h1]
  · rename_i hh
    rw [if_neg hh]
    obtain ⟨h1, h2⟩ := Prod.mk.inj h
    subst h2
    unfold ins
    by_cases hm : nodeN w ks ∈ l
    · rw [if_pos hm, if_pos hm, h1]
    · have hm2 : nodeN w ks ∈ l ++ [nodeN w ks] := List.mem_append_right _ (List.mem_singleton_self _)
      rw [if_neg hm, if_pos hm2]
      rw [idxOf_not hm] at h1
      rw [List.idxOf_append, if_neg hm, ← h1]
      simp
theorem kidAt_app {id i : Nat} (h : id < l.length) (r : List ND) : kidAt (l ++ r) id i = kidAt l id i := by unfold kidAt; rw [getD_app h]
theorem Cut.app {id c : Nat} (h : Cut ar v k l id c) (r : List ND) : Cut ar v k (l ++ r) id c := by
  induction h with
  | hi id h hv => exact .hi id (by simp; omega) (by rw [abvD_app h]; exact hv)
  | here id h hv =>
    rw [← kidAt_app h r]
    exact .here id (by simp; omega) (by rw [abvD_app h]; exact hv)
  | lo id cs c h hv hl hk hn ih =>
    refine .lo id cs c (by simp; omega) (by rw [abvD_app h]; exact hv) (by rw [getD_app h]; exact hl) (fun i hi => ?_) (by rw [getD_app h]; exact nodeR_app hn r)
    rw [kidAt_app h r]
    exact ih i hi
/-- The kids of a node: theirs is a higher place. -/
theorem kidAt_facts (g : GoodL ar l) {id : Nat} (hid : id < l.length) (hv : abvD ar l id < ar.length) {i : Nat} (hi : i < (l.getD id ⟨0, [], 0⟩).kids.length) : kidAt l id i < id ∧ abvD ar l id < abvD ar l (kidAt l id i) ∧ ((l.getD id ⟨0, [], 0⟩).kids.getD i 0) = ((kidAt l id i : Nat) : Int) := by
  unfold kidAt
  rw [getD_at hid] at hi ⊢
  rw [abvD_at hid] at hv ⊢
  have hva : 0 ≤ l[id].var := by
    refine Decidable.byContradiction fun hn => ?_
    unfold abv at hv
    rw [if_neg (by omega)] at hv
    omega
  obtain ⟨b1, b2⟩ := g.var id hid hva
  obtain ⟨t, e, ht, h2⟩ := kid_at g hid hva (k := i) (by rw [← b2]; omega)
  rw [e, Int.toNat_natCast]
  refine ⟨ht, ?_, rfl⟩
  have := h2 (by omega)
  rw [abvD_at (by omega)]
  unfold abv
  rw [if_pos hva]
  unfold abv at this
  exact this
theorem abv_var (g : GoodL ar l) {id : Nat} (hid : id < l.length) (hv : abvD ar l id < ar.length) : (l.getD id ⟨0, [], 0⟩).var = abvD ar l id ∧ 0 ≤ abvD ar l id ∧ ((l.getD id ⟨0, [], 0⟩).kids.length : Int) = ar.getD (abvD ar l id).toNat 0 ∧ 2 ≤ (l.getD id ⟨0, [], 0⟩).kids.length := by
  rw [getD_at hid]
  rw [abvD_at hid] at hv ⊢
  have hva : 0 ≤ l[id].var := by
    refine Decidable.byContradiction fun hn => ?_
    unfold abv at hv
    rw [if_neg (by omega)] at hv
    omega
  have e : abv ar.length l[id] = l[id].var := by unfold abv; rw [if_pos hva]
  rw [e]
  refine ⟨rfl, hva, (g.var id hid hva).2, ?_⟩
  obtain ⟨q, hq, hne⟩ := g.dif id hid hva
  cases hk : l[id].kids with
  | nil => rw [hk] at hq; cases hq
  | cons k0 kt =>
    cases kt with
    | nil =>
      rw [hk] at hq hne
      simp at hq
      exact absurd hq hne
    | cons k1 kt => simp
/-- What the cofactor means. -/
theorem Cut.sem {id c : Nat} (h : Cut ar v k l id c) (g : GoodL ar l) (h1 : ∀ x ∈ ar, 1 ≤ x ∧ x ≤ 64) (hal : ar.length ≤ 16) (hv : v < ar.length) (hk : (k : Int) < ar.getD v 0) (hll : l.length ≤ 100000) : c < l.length ∧ abvD ar l id ≤ abvD ar l c ∧ ∀ y, Asg ar y → S l y c = S l (upd y v k) id := by
  induction h with
  | hi id h hva => exact ⟨h, Int.le_refl _, fun y hy => (S_indep g hy hk id h (by rw [← abvD_at h]; exact hva)).symm⟩
  | here id h hva =>
    obtain ⟨a1, a2, a3, a4⟩ := abv_var g h (by omega)
    have hkl : k < (l.getD id ⟨0, [], 0⟩).kids.length := by
      have : (abvD ar l id).toNat = v := by omega
      rw [this] at a3; omega
    obtain ⟨b1, b2, b3⟩ := kidAt_facts g h (by omega) hkl
    refine ⟨by omega, by omega, fun y hy => ?_⟩
    have e := S_upd g hy h (v := v) (k := k) (by rw [← getD_at h]; omega) hk
    rw [e]
    unfold kidAt
    rw [getD_at h]
  | lo id cs c h hva hl hkk hn ih =>
    obtain ⟨a1, a2, a3, a4⟩ := abv_var g h (by omega)
    obtain ⟨w, hw⟩ := Int.eq_ofNat_of_zero_le a2
    have hw' : abvD ar l id = (w : Int) := hw
    have hwv : w < v := by omega
    have hwt : (abvD ar l id).toNat = w := by omega
    rw [hwt] at a3
    obtain ⟨r, id', er, hr1, hr2, gi, hidl, htop, hS⟩ := nodeR_facts g h1 hal (v := w) (by omega) (ks := cs) (by rw [hl]; exact a3) (fun q hq => by
      obtain ⟨i, hi, e⟩ := List.getElem_of_mem hq
      obtain ⟨c1, c2, _⟩ := ih i hi
      obtain ⟨b1, b2, _⟩ := kidAt_facts g h (by omega) (i := i) (by omega)
      rw [List.getD_eq_getElem?_getD, List.getElem?_eq_getElem hi, Option.getD_some, e] at c1 c2
      refine ⟨c1, ?_⟩
      rw [← abvD_at c1]; omega) hll
    rw [a1, hw', er] at hn
    obtain ⟨e1, e2⟩ := Prod.mk.inj hn
    have hr : r = [] := by
      have := congrArg List.length e2
      simp at this
      exact this
    subst hr
    rw [List.append_nil] at hidl
    have e3 : id' = c := by omega
    subst e3
    have e4 : (l ++ [])[id']'(by rw [List.append_nil]; exact hidl) = l[id'] := by simp
    refine ⟨hidl, ?_, fun y hy => ?_⟩
    · rw [abvD_at hidl, hw', ← e4]; exact htop
    · have hyw : y w < cs.length := by have := hy w (by omega); rw [hl]; omega
      have h5 := hS y hy
      rw [List.append_nil] at h5
      rw [h5, (ih (y w) hyw).2.2 y hy]
      have h6 := S_node g (hy.upd hk) h (by rw [← getD_at h]; omega)
      have e7 : l[id].var.toNat = w := by rw [← getD_at h]; omega
      rw [h6, e7]
      have e8 : upd y v k w = y w := by unfold upd; rw [if_neg (by omega)]
      rw [e8]
      unfold kidAt
      rw [getD_at h]
end
end Go.Ab

/- Apply, by value: both, Apply; DiagramApplies in values. -/
set_option linter.unusedVariables false
set_option linter.unusedSimpArgs false
set_option linter.unusedSectionVars false
set_option maxRecDepth 100000
namespace Go.Ab
open Go.Proofs Go.Proofs.Tryd

section
variable {m : Mem} {s : Nat} {F : List Nat} {arms : AV} {most : Int} {l : List ND}
theorem A52x {g : Nat} {caps : List AV} {Q : Int → List ND → Prop} (h : St8 m s F arms most l) (h1 : cfg.lib g = none) (h2 : cfg.inl 52 g = true) (h3 : cfg.thaw 52 g = false)
    (hc : ∀ m1, Fr m m1 [] → ∃ m' F' id l', AC cfg g caps m1 = some (.int .i64 id, m') ∧ Q id l' ∧ St8 m' s F' arms most l' ∧ Fr m1 m' F ∧ Gr m1 F F') :
    ∃ m' F' id l', AC cfg 52 [.ptr s 0, .fn g caps] m = some (.tup [.int .i64 id, .int .i64 0], m') ∧ Q id l' ∧ St8 m' s F' arms most l' ∧ Fr m m' F ∧ Gr m F F' := by
  have hlt := h.lt
  obtain ⟨p, na, T, h, rfl⟩ := h
  have hs := h.hs
  have hsl := get_lt hs
  have hlen : lenA false na = some (.int .i64 l.length) := by
    cases h.hn with
    | none => rfl
    | some t l ht => rw [lenA_lst, List.length_map]
  obtain ⟨m2, F2, id, l', e2, hQ, k1, k2, k3⟩ := hc (List.set (((m ++ [some (Ent.obj true [.ptr s 0])]) ++ [some (Ent.obj true [.int .i64 0])]) ++ [some (Ent.obj true [.int .i64 0])] ++ [some (Ent.obj true [.int .i64 0])]) (m.length + 1 + 1 + 1) (some (Ent.obj true [.int .i64 l.length]))) (((((Fr.app m _ _).snoc _).snoc _).snoc _).set _ (.inr (by omega)))
  have len2 := k2.len
  simp only [List.length_set, List.length_append, List.length_cons, List.length_nil] at len2
  have g1 : Mem.get m2 (m.length + 1) = some (Ent.obj true [.int .i64 0]) := by
    rw [k2.get _ (by simp) (fun hx => by have := hlt _ hx; omega)]; exact (by simp (disch := (first | assumption | omega | (simp only [List.length_append, List.length_set, List.length_cons, List.length_nil]; first | done | omega))) only [resv1, g_lt, g_eq, g_sne, g_seq]; first | done | rfl)
  have g2 : Mem.get m2 (m.length + 2) = some (Ent.obj true [.int .i64 0]) := by
    rw [k2.get _ (by simp) (fun hx => by have := hlt _ hx; omega)]; exact (by simp (disch := (first | assumption | omega | (simp only [List.length_append, List.length_set, List.length_cons, List.length_nil]; first | done | omega))) only [resv1, g_lt, g_eq, g_sne, g_seq]; first | done | rfl)
  have e : AC cfg 52 [.ptr s 0, .fn g caps] m = some (.tup [.int .i64 id, .int .i64 0], (m2.set (m.length + 1) (some (Ent.obj true [.int .i64 id]))).set (m.length + 1 + 1) (some (Ent.obj true [.int .i64 0]))) := by
    rw [T52]
    repeat ((with_reducible (first | apply bs | apply bsy)); (focus (first | (simp (disch := (first | assumption | omega | (simp only [List.length_append, List.length_set, List.length_cons, List.length_nil]; first | done | omega))) only [List.all_cons, List.all_nil, Bool.and_true, Bool.and_self, beq_self_eq_true, resv1, List.length_map, ld_v3, ld_v1, binA_eql, binA_neq, binA_lss, binA_leq, binA_gtr, binA_geq, loadA_one, un_not, ld_ptr, st_ptr, putE1, objE_obj, Option.bind_some, cut1, cut3, cut4, nil_ptr, fa_ptr, g_lt, g_eq, g_sne, g_seq, new_n, box_n, List.getElem?_cons_zero, List.getElem?_cons_succ, ex0, ex1, Sh.size, cells_int, aok_int, cells_bool, aok_bool, cells_str, aok_str, cells_lst, aok_lst, cells_ptr, aok_ptr, cells_arr, aok_arr, cells_fn, aok_fn, cells_mref, aok_mref, cells_nilp, aok_nilp, cells_agg, shOk_n, shOk_s, lenA_lst, List.length_cons, List.length_nil, if_true, putAt, List.take_succ_cons, List.take_zero, List.drop_succ_cons, List.drop_zero, List.cons_append, List.nil_append, List.append_nil, Nat.zero_add, Nat.reduceAdd, Nat.reduceLeDiff, Nat.le_refl, List.drop_nil, List.take_nil, List.length_append, List.length_set, hs, hlen, box_p]; first | done | rfl) | rfl)); try dsimp only)
    rw [List.nil_append, callK_in h1 h2 h3, e2, Option.bind_some]
    dsimp only
    repeat ((with_reducible (first | apply bs | apply bsy)); (focus (first | (simp (disch := (first | assumption | omega | (simp only [List.length_append, List.length_set, List.length_cons, List.length_nil]; first | done | omega))) only [List.all_cons, List.all_nil, Bool.and_true, Bool.and_self, beq_self_eq_true, resv1, List.length_map, ld_v3, ld_v1, binA_eql, binA_neq, binA_lss, binA_leq, binA_gtr, binA_geq, loadA_one, un_not, ld_ptr, st_ptr, putE1, objE_obj, Option.bind_some, cut1, cut3, cut4, nil_ptr, fa_ptr, g_lt, g_eq, g_sne, g_seq, new_n, box_n, List.getElem?_cons_zero, List.getElem?_cons_succ, ex0, ex1, Sh.size, cells_int, aok_int, cells_bool, aok_bool, cells_str, aok_str, cells_lst, aok_lst, cells_ptr, aok_ptr, cells_arr, aok_arr, cells_fn, aok_fn, cells_mref, aok_mref, cells_nilp, aok_nilp, cells_agg, shOk_n, shOk_s, lenA_lst, List.length_cons, List.length_nil, if_true, putAt, List.take_succ_cons, List.take_zero, List.drop_succ_cons, List.drop_zero, List.cons_append, List.nil_append, List.append_nil, Nat.zero_add, Nat.reduceAdd, Nat.reduceLeDiff, Nat.le_refl, List.drop_nil, List.take_nil, List.length_append, List.length_set, g1, g2]; first | done | rfl) | rfl)); try dsimp only)
  refine ⟨_, F2, id, l', e, hQ, ?_, ?_, ?_⟩
  · refine k1.move fun x hx => ?_
    have hx2 : x ≠ m.length + 1 ∧ x ≠ m.length + 1 + 1 := by
      rcases k3 x hx with h | h
      · have := hlt x h; omega
      · simp only [List.length_set, List.length_append, List.length_cons, List.length_nil] at h; omega
    rw [g_sne hx2.2, g_sne hx2.1]
  · have f1 : Fr m m2 (s :: p :: T) := Fr.trans (((((Fr.app m _ _).snoc _).snoc _).snoc _).set _ (.inr (by omega))) k2 fun x hx => .inl hx
    exact (f1.set _ (.inr (by omega))).set _ (.inr (by omega))
  · intro x hx
    rcases k3 x hx with h | h
    · exact .inl h
    · simp only [List.length_set, List.length_append, List.length_cons, List.length_nil] at h
      exact .inr (by omega)
end
section
variable {s pm bf : Nat} {zs zf : Bool} {os oF : Own} {ar fl : List Int}
theorem abv_ub {l : List ND} (g : GoodL ar l) {i : Nat} (hi : i < l.length) : 0 ≤ abvD ar l i ∧ abvD ar l i ≤ ar.length := by
  rw [abvD_at hi]
  unfold abv
  split
  · have := (g.var i hi (by omega)).1; omega
  · omega
end
end Go.Ab

/- Restrict, by value: cut. -/
set_option linter.unusedVariables false
set_option linter.unusedSimpArgs false
set_option linter.unusedSectionVars false
set_option maxRecDepth 100000
namespace Go.Ab
open Go.Proofs Go.Proofs.Tryd

/-! ### What was found is kept -/
def qi (E : List (Nat × Nat)) : List (AV × AV) := E.map fun e => (.int .i64 e.1, .int .i64 e.2)
theorem qi_find (E : List (Nat × Nat)) (a : Nat) : (qi E).find? (fun p => keyB p.1 (.int .i64 a)) = (E.find? fun e => decide (e.1 = a)).map fun e => (.int .i64 e.1, .int .i64 e.2) := by
  unfold qi
  rw [List.find?_map]
  congr 2
  funext e
  show keyB (.int .i64 (e.1 : Int)) (.int .i64 (a : Int)) = decide (e.1 = a)
  simp only [keyB, atomB, decide_true, Bool.true_and]
  exact decide_eq_decide.2 (by omega)
theorem look_q {m : Mem} {p a : Nat} {E : List (Nat × Nat)} (hp : m.get p = some (.mp (.int .i64) (qi E))) (ha : a ≤ 1000000) :
    lookA (.int .i64) (.int .i64 0) m (.mref p) (.int .i64 a) = some (match E.find? fun e => decide (e.1 = a) with | some e => (.int .i64 e.2, true) | none => (.int .i64 0, false)) := by
  have h1 : mpA m (.int .i64) (.mref p) = some (p, qi E) := by simp [mpA, hp]
  unfold lookA
  rw [h1]
  simp only [Option.bind_some, keyOk_i ha, if_true, lookE, qi_find]
  cases E.find? fun e => decide (e.1 = a) <;> rfl
theorem upd_q {m : Mem} {p a id : Nat} {E : List (Nat × Nat)} (hp : m.get p = some (.mp (.int .i64) (qi E))) (ha : a ≤ 1000000) (hn : ∀ e ∈ E, e.1 ≠ a) (hl : E.length ≤ 100000) :
    updA (.int .i64) m (.mref p) (.int .i64 a) (.int .i64 id) = some (m.set p (some (.mp (.int .i64) (qi (E ++ [(a, id)]))))) := by
  have h1 : mpA m (.int .i64) (.mref p) = some (p, qi E) := by simp [mpA, hp]
  have h3 : (qi E).any (fun p => keyB p.1 (.int .i64 a)) = false := by
    have := qi_find E a
    have h4 : (E.find? fun e => decide (e.1 = a)) = none := by
      rw [List.find?_eq_none]
      intro e he
      simpa using hn e he
    rw [h4, Option.map_none, List.find?_eq_none] at this
    rw [List.any_eq_false]
    exact this
  unfold updA
  rw [h1, Option.bind_some, if_pos ⟨keyOk_i ha, rfl, by unfold qi; rw [List.length_map]; unfold maxLen; omega⟩]
  have e5 : putE (qi E) (.int .i64 a) (.int .i64 id) = qi (E ++ [(a, id)]) := by
    unfold qi at h3 ⊢
    simp only [putE, h3, List.map_append, List.map_cons, List.map_nil]
  rw [e5]
/-! ### cut -/
theorem getD_el {l : List Int} {i : Nat} (h : i < l.length) : l.getD i 0 = l[i] := by rw [List.getD_eq_getElem?_getD, List.getElem?_eq_getElem h, Option.getD_some]
def At69 (s pm : Nat) (zs : Bool) (os : Own) (ar : List Int) (v k w : Nat) : Prop :=
  ∀ (m : Mem) (F : List Nat) (l : List ND) (E : List (Nat × Nat)) (id : Nat), St8 m s F (IA zs os ar) 4000 l → GoodL ar l → id < l.length → (w : Int) ≤ abvD ar l id → (∀ e ∈ E, Cut ar v k l e.1 e.2) → m.get pm = some (.mp (.int .i64) (qi E)) → pm ∉ F → l.length + 2 * prodF ((ar.take v).drop w) ≤ 4000 → E.length + 2 * prodF ((ar.take v).drop w) ≤ 90000 →
    ∃ (m' : Mem) (F' : List Nat) (r : List ND) (N : List (Nat × Nat)) (c : Nat), AC cfg 69 [.ptr s 0, .int .i64 id, .int .i64 v, .int .i64 k, .mref pm] m = some (.int .i64 (c : Nat), m') ∧ St8 m' s F' (IA zs os ar) 4000 (l ++ r) ∧ GoodL ar (l ++ r) ∧ (∀ e ∈ E ++ N, Cut ar v k (l ++ r) e.1 e.2) ∧ m'.get pm = some (.mp (.int .i64) (qi (E ++ N))) ∧ Cut ar v k (l ++ r) id c ∧
      r.length + 1 ≤ 2 * prodF ((ar.take v).drop w) ∧ N.length + 1 ≤ 2 * prodF ((ar.take v).drop w) ∧ ((∃ c0, Cut ar v k l id c0) → r = []) ∧ (∀ e ∈ N, (w : Int) ≤ abvD ar (l ++ r) e.1) ∧ Fr m m' (pm :: F) ∧ Gr m F F'
section
variable {s pm : Nat} {zs : Bool} {os : Own} {ar : List Int} {v k : Nat}
theorem W69k (h1 : ∀ x ∈ ar, 1 ≤ x ∧ x ≤ 64) (hal : ar.length ≤ 16) (hv : v < ar.length) (hk : (k : Int) < ar.getD v 0) {w c n : Nat} (hw : w < v) (hn : n = prodF ((ar.take v).drop (w + 1))) (ih : ∀ w', w < w' → At69 s pm zs os ar v k w')
    {l0 : List ND} {id : Nat} (g0 : GoodL ar l0) (hid : id < l0.length) (hwid : abvD ar l0 id = w) (hc : (l0.getD id ⟨0, [], 0⟩).kids.length = c) (hl0 : l0.length + 2 * (c * n) ≤ 4000) {E0 : List (Nat × Nat)} (hE0n : ∀ e ∈ E0, e.1 ≠ id) (hE0l : E0.length + 2 * (c * n) ≤ 90000)
    {m0 : Mem} {F0 : List Nat} (hpF0 : pm ∉ F0) (hpm0 : pm < m0.length) {z1 : Bool} {o1 : Own} : ∀ (j i : Nat) (m : Mem) (F : List Nat) (R : List ND) (N : List (Nat × Nat)) (cs : List Nat) (x : AV) (T : List Nat), i + j = c → St8 m s F (IA zs os ar) 4000 (l0 ++ R) → GoodL ar (l0 ++ R) → (∀ e ∈ E0 ++ N, Cut ar v k (l0 ++ R) e.1 e.2) → m.get pm = some (.mp (.int .i64) (qi (E0 ++ N))) →
      cs.length = i → (∀ q, q < cs.length → Cut ar v k (l0 ++ R) (kidAt l0 id q) (cs.getD q 0)) → R.length + i ≤ 2 * n * i → N.length + i ≤ 2 * n * i → ((∃ c0, Cut ar v k l0 id c0) → R = []) → (∀ e ∈ N, (w : Int) < abvD ar (l0 ++ R) e.1) → GR 3 m x ((cs.map Int.ofNat).map (AV.int .i64)) T → (∀ y ∈ T, y ∉ F ∧ m0.length ≤ y) → Fr m0 m (pm :: F0) → Gr m0 F0 F →
    ∃ (m' : Mem) (F' : List Nat) (r : List ND) (N' : List (Nat × Nat)) (c' : Nat), L69_10 (.ptr s 0) (.int .i64 id) (.int .i64 v) (.int .i64 k) (.mref pm) x (IA z1 o1 (l0.getD id ⟨0, [], 0⟩).kids) (.int .i64 c) (.int .i64 i) m (K69_10 (finK cfg.P f69.results.toList)) = some (.int .i64 (c' : Nat), m') ∧ St8 m' s F' (IA zs os ar) 4000 (l0 ++ r) ∧ GoodL ar (l0 ++ r) ∧ (∀ e ∈ E0 ++ N', Cut ar v k (l0 ++ r) e.1 e.2) ∧ m'.get pm = some (.mp (.int .i64) (qi (E0 ++ N'))) ∧ Cut ar v k (l0 ++ r) id c' ∧
      r.length + 1 ≤ 2 * (c * n) ∧ N'.length + 1 ≤ 2 * (c * n) ∧ ((∃ c0, Cut ar v k l0 id c0) → r = []) ∧ (∀ e ∈ N', (w : Int) ≤ abvD ar (l0 ++ r) e.1) ∧ Fr m0 m' (pm :: F0) ∧ Gr m0 F0 F' := by
  have h1' : ∀ x ∈ ar, 1 ≤ x := fun x hx => (h1 x hx).1
  have hwl : w < ar.length := by omega
  have h1t : ∀ x ∈ (ar.take v).drop (w + 1), 1 ≤ x := fun x hx => h1' x (List.take_subset _ _ (List.drop_subset _ _ hx))
  have hn0 : 1 ≤ n := by rw [hn]; exact prod_pos h1t
  obtain ⟨a1, a2, a3, a4⟩ := abv_var g0 hid (by omega)
  have hwt : (abvD ar l0 id).toNat = w := by omega
  rw [hwt, hc] at a3
  rw [hc] at a4
  have hc64 : c ≤ 64 := by
    have := h1 _ (List.getElem_mem hwl)
    rw [List.getD_eq_getElem?_getD, List.getElem?_eq_getElem hwl, Option.getD_some] at a3
    omega
  intro j
  induction j with
  | zero =>
    intro i m F R N cs x T hi h g hE hpg hcs hval hR hN hno hNa hx hT f gr
    obtain rfl : i = c := by omega
    have hcn : R.length + i ≤ 2 * (i * n) := by rw [Nat.mul_comm i n, ← Nat.mul_assoc]; exact hR
    have hcN : N.length + i ≤ 2 * (i * n) := by rw [Nat.mul_comm i n, ← Nat.mul_assoc]; exact hN
    have hll : (l0 ++ R).length < 4000 := by rw [List.length_append]; omega
    have hkf : ∀ q, q < cs.length → (cs.getD q 0) < (l0 ++ R).length ∧ (w : Int) < abvD ar (l0 ++ R) (cs.getD q 0) := fun q hq => by
      obtain ⟨b1, b2, _⟩ := kidAt_facts g0 hid (by omega) (i := q) (by omega)
      obtain ⟨c1, c2, _⟩ := (hval q hq).sem g h1 hal hv hk (by omega)
      rw [abvD_app (by omega)] at c2
      exact ⟨c1, by omega⟩
    obtain ⟨r1, c', er, hr1, hr2, g2, hcl, htop, hS⟩ := nodeR_facts g h1 hal hwl (ks := cs) (by rw [hcs]; exact a3) (fun y hy => by
      obtain ⟨q, hq, e⟩ := List.getElem_of_mem hy
      have := hkf q hq
      rw [List.getD_eq_getElem?_getD, List.getElem?_eq_getElem hq, Option.getD_some, e] at this
      exact ⟨this.1, by rw [← abvD_at this.1]; exact this.2⟩) (by omega)
    have hcs0 : cs ≠ [] := fun e => by rw [e] at hcs; simp at hcs; omega
    have hgd : ∃ t, x = .lst none false (.tok t 3) ((cs.map Int.ofNat).map (AV.int .i64)) := by
      generalize hq : (cs.map Int.ofNat).map (AV.int .i64) = es at hx
      cases hx with
      | none => simp at hq; exact absurd hq hcs0
      | some t es ht hne => exact ⟨t, rfl⟩
    obtain ⟨t, rfl⟩ := hgd
    have hno2 : (nodeN w (cs.map Int.ofNat)).ok := by
      refine .inr ⟨by simp only [nodeN]; omega, by simp only [nodeN]; omega, rfl, fun q hq => ?_, by simp only [nodeN, List.length_map]; omega⟩
      obtain ⟨y, hy, rfl⟩ := List.mem_map.1 hq
      obtain ⟨q, hq, e⟩ := List.getElem_of_mem hy
      have := (hkf q hq).1
      rw [List.getD_eq_getElem?_getD, List.getElem?_eq_getElem hq, Option.getD_some, e] at this
      refine ⟨Int.natCast_nonneg y, ?_⟩
      show (y : Int) < 1000000
      omega
    obtain ⟨m2, F2, e59, k1, k2, k3⟩ := A59 h (v := w) (z := false) (o := .tok t 3) (ks := cs.map Int.ofNat) (by simpa using hcs0) hno2 rfl (.inr ⟨t, 3, rfl⟩) (by omega) (by omega)
    rw [er] at e59 k1
    dsimp only at e59 k1
    have hpF : pm ∉ F := fun hh => by
      rcases gr pm hh with h4 | h4
      · exact hpF0 h4
      · omega
    have hpml := get_lt hpg
    have hpg2 : m2.get pm = some (.mp (.int .i64) (qi (E0 ++ N))) := (k2.get pm hpml hpF).trans hpg
    have hNn : ∀ e ∈ E0 ++ N, e.1 ≠ id := fun e he => by
      rcases List.mem_append.1 he with he | he
      · exact hE0n e he
      · intro ee
        have := hNa e he
        rw [ee, abvD_app hid] at this
        omega
    have up := upd_q (id := c') hpg2 (a := id) (by omega) hNn (by rw [List.length_append]; omega)
    have hpl2 := get_lt hpg2
    have hpF2 : pm ∉ F2 := fun hh => by
      rcases k3 pm hh with h4 | h4
      · exact hpF h4
      · omega
    have hcut : Cut ar v k (l0 ++ (R ++ r1)) id c' := by
      rw [← List.append_assoc]
      have er2 := nodeR_app (l := (l0 ++ R) ++ r1) (w := (w : Int)) (ks := cs.map Int.ofNat) (c := ((c' : Nat) : Int)) (by
        have hd := nodeR_done er
        exact hd) []
      rw [List.append_nil] at er2
      refine .lo id cs c' (by simp; omega) (by rw [List.append_assoc, abvD_app hid]; omega) (by rw [List.append_assoc, getD_app hid]; omega) (fun q hq => ?_) (by rw [List.append_assoc, getD_app hid, a1, hwid, ← List.append_assoc]; exact er2)
      rw [List.append_assoc, kidAt_app hid, ← List.append_assoc]
      exact (hval q hq).app r1
    refine ⟨m2.set pm (some (.mp (.int .i64) (qi (E0 ++ N ++ [(id, c')])))), F2, R ++ r1, N ++ [(id, c')], c', ?_, ?_, by rw [← List.append_assoc]; exact g2, fun e he => ?_, ?_, hcut, ?_, ?_, fun hh => ?_, fun e he => ?_, ?_, Gr.trans f.len gr k3⟩
    · have e59 : AC cfg 59 [.ptr s 0, .int .i64 w, .lst none false (.tok t 3) ((cs.map Int.ofNat).map (AV.int .i64))] m = _ := e59
      have hst := h
      obtain ⟨p, na, TT, st, hFF⟩ := hst
      have ldn : loadA none m (.ptr s (0 + 1)) = some na := by rw [ld_ptr, st.hs]; rfl
      have hidl : id < (l0 ++ R).length := by rw [List.length_append]; omega
      have hnx := na_idx st.hn hidl
      have l3 : ∀ (a b c : AV), loadA none m (.vptr [a, b, c]) = some a := fun _ _ _ => rfl
      have hvar : (l0 ++ R)[id].var = (w : Int) := by rw [← getD_at hidl, getD_app hid, a1, hwid]
      rw [L69_10_eq, n_lss, Option.bind_some, ifA_dec, if_neg (by omega), K69_10_x0, nil_ptr, Option.bind_some, fa_ptr, Option.bind_some, ldn, Option.bind_some, hnx, Option.bind_some, f0v, Option.bind_some, l3, Option.bind_some, hvar, e59, Option.bind_some, up, Option.bind_some]
    · rw [← List.append_assoc]
      exact k1.move fun y hy => g_sne (fun e => hpF2 (e ▸ hy))
    · rw [← List.append_assoc] at he
      rcases List.mem_append.1 he with he | he
      · rw [← List.append_assoc]; exact (hE e he).app r1
      · obtain rfl : e = (id, c') := by simpa using he
        exact hcut
    · rw [g_seq rfl hpl2, List.append_assoc]
    · rw [List.length_append]; omega
    · rw [List.length_append, List.length_cons, List.length_nil]; omega
    · have hR0 := hno hh
      subst hR0
      rw [List.append_nil] at er hval
      obtain ⟨c0, hc0⟩ := hh
      have hd : r1 = [] := by
        cases hc0 with
        | hi _ _ hv' => omega
        | here _ _ hv' => omega
        | lo _ cs' _ _ hv' hl' hk' hn' =>
          have e : cs = cs' := list_eq_getD' (by omega) fun q hq => (hval q hq).det _ (hk' q (by omega))
          subst e
          rw [a1, hwid, er] at hn'
          have := congrArg List.length (Prod.mk.inj hn').2
          simp at this
          exact this
      rw [hd]; rfl
    · rcases List.mem_append.1 he with he | he
      · have h5 := hNa e he
        have h6 := (hE e (List.mem_append_right _ he)).lt
        rw [← List.append_assoc, abvD_app h6]
        omega
      · obtain rfl : e = (id, c') := by simpa using he
        simp only
        rw [abvD_app hid]
        omega
    · exact (Fr.trans f k2 fun y hy => by
        rcases gr y hy with h4 | h4
        · exact .inl (by simp [h4])
        · exact .inr h4).set _ (.inl (by simp))
  | succ j ihj =>
    intro i m F R N cs x T hi h g hE hpg hcs hval hR hN hno hNa hx hT f gr
    have hic : i < c := by omega
    obtain ⟨b1, b2, b3⟩ := kidAt_facts g0 hid (by omega) (i := i) (by omega)
    have hick : i < (l0.getD id ⟨0, [], 0⟩).kids.length := by omega
    have hix : indexAddrA none (IA z1 o1 (l0.getD id ⟨0, [], 0⟩).kids) (.int .i64 i) = some (.vptr [.int .i64 (kidAt l0 id i : Nat)]) := by
      rw [idx_IA hick, ← getD_el hick, b3]
    have hnk : ∀ c0, Cut ar v k l0 id c0 → ∃ c1, Cut ar v k l0 (kidAt l0 id i) c1 := fun c0 h0 => by
      cases h0 with
      | hi _ _ hv' => omega
      | here _ _ hv' => omega
      | lo _ cs' _ _ hv' hl' hk' hn' => exact ⟨_, hk' i (by omega)⟩
    generalize hqe : kidAt l0 id i = q at *
    have hql : q < (l0 ++ R).length := by rw [List.length_append]; omega
    have hqa : ((w + 1 : Nat) : Int) ≤ abvD ar (l0 ++ R) q := by rw [abvD_app (by omega)]; omega
    have hck : (i + 1) * n ≤ c * n := Nat.mul_le_mul_right _ (by omega)
    have hk1n : (i + 1) * n = i * n + n := by rw [Nat.add_mul, Nat.one_mul]
    have h2nk : 2 * n * i = 2 * (i * n) := by rw [Nat.mul_assoc, Nat.mul_comm n i]
    have hpF : pm ∉ F := fun hh => by
      rcases gr pm hh with h4 | h4
      · exact hpF0 h4
      · omega
    obtain ⟨m1, F1, r1, N1, c1, e69, k1, k2, k3, k4, k5, k6, k7, k8, k9, k10, k11⟩ := ih (w + 1) (by omega) m F (l0 ++ R) (E0 ++ N) q h g hql hqa hE hpg hpF (by rw [List.length_append, ← hn]; omega) (by rw [List.length_append, ← hn]; omega)
    rw [← hn] at k6 k7
    have hpml := get_lt hpg
    have hTp : ∀ y ∈ T, y ≠ pm := fun y hy e => by have := (hT y hy).2; omega
    have g1 : GR 3 m1 x ((cs.map Int.ofNat).map (AV.int .i64)) T := gr_move hx fun y hy => k10.get y (gr_lt hx y hy) (by simp only [List.mem_cons, not_or]; exact ⟨hTp y hy, (hT y hy).1⟩)
    obtain ⟨x2, m2, T2, ea, g2, f2, gg2⟩ := gr_app (b := 8) g1 (by simp; omega) (by omega) (.int .i64 (c1 : Nat))
    have hTF1 : ∀ y ∈ T, y ∉ F1 := fun y hy hF => by
      rcases k11 y hF with hh | hh
      · exact (hT y hy).1 hh
      · have := gr_lt hx y hy; omega
    have l1 := f.len; have l2 := k10.len
    have st2 : St8 m2 s F1 (IA zs os ar) 4000 (l0 ++ (R ++ r1)) := by
      rw [← List.append_assoc]
      exact k1.fr f2 fun y hy hT' => hTF1 y hT' hy
    have hpT : pm ∉ T := fun hh => by have := (hT pm hh).2; omega
    have e0 : L69_10 (.ptr s 0) (.int .i64 id) (.int .i64 v) (.int .i64 k) (.mref pm) x (IA z1 o1 (l0.getD id ⟨0, [], 0⟩).kids) (.int .i64 c) (.int .i64 i) m (K69_10 (finK cfg.P f69.results.toList)) = L69_10 (.ptr s 0) (.int .i64 id) (.int .i64 v) (.int .i64 k) (.mref pm) x2 (IA z1 o1 (l0.getD id ⟨0, [], 0⟩).kids) (.int .i64 c) (.int .i64 (i + 1 : Nat)) m2 (K69_10 (finK cfg.P f69.results.toList)) := by
      rw [L69_10_eq, n_lss, Option.bind_some, ifA_dec, if_pos hic, hix, Option.bind_some, loadA_one, Option.bind_some, e69, Option.bind_some, build_int, Option.bind_some, ea, Option.bind_some, i_add1 (by omega), Option.bind_some]
    rw [e0]
    refine ihj (i + 1) m2 F1 (R ++ r1) (N ++ N1) (cs ++ [c1]) x2 T2 (by omega) st2 (by rw [← List.append_assoc]; exact k2) (by rw [← List.append_assoc, ← List.append_assoc]; exact k3) ?_ (by simp [hcs]) (fun y hy => ?_) ?_ ?_ (fun hh => ?_) (fun e he => ?_) (by rw [List.map_append, List.map_append]; exact g2) (fun y hy => ?_) ?_ (Gr.trans f.len gr k11)
    · rw [f2.get pm (by omega) hpT, k4, List.append_assoc]
    · rw [← List.append_assoc]
      by_cases hy2 : y < cs.length
      · rw [List.getD_eq_getElem?_getD, List.getElem?_append_left hy2, ← List.getD_eq_getElem?_getD]
        exact (hval y hy2).app r1
      · have : y = cs.length := by simp at hy; omega
        subst this
        rw [List.getD_eq_getElem?_getD, List.getElem?_append_right (Nat.le_refl _), Nat.sub_self]
        rw [hcs, hqe]
        exact k5
    · rw [List.length_append, Nat.mul_add, Nat.mul_one]; omega
    · rw [List.length_append, Nat.mul_add, Nat.mul_one]; omega
    · have hR0 := hno hh
      subst hR0
      obtain ⟨c0, hc0⟩ := hh
      rw [k8 (by rw [List.append_nil]; exact hnk c0 hc0)]; rfl
    · rw [← List.append_assoc]
      rcases List.mem_append.1 he with he | he
      · have h5 := hNa e he
        have h6 := (hE e (List.mem_append_right _ he)).lt
        rw [abvD_app h6]
        exact h5
      · have := k9 e he; omega
    · rcases gg2 y hy with hh | hh
      · exact ⟨hTF1 y hh, (hT y hh).2⟩
      · exact ⟨fun hF => by have := k1.lt y hF; omega, by omega⟩
    · exact Fr.trans (Fr.trans f k10 fun y hy => by
        rcases List.mem_cons.1 hy with rfl | hy
        · exact .inl (by simp)
        · rcases gr y hy with h4 | h4
          · exact .inl (by simp [h4])
          · exact .inr h4) f2 fun y hy => .inr (hT y hy).2
end
end Go.Ab

/- Number and the reference's Restrict, by value. -/
set_option linter.unusedVariables false
set_option linter.unusedSimpArgs false
set_option linter.unusedSectionVars false
set_option maxRecDepth 100000
namespace Go.Ab
open Go.Proofs Go.Proofs.Tryd

theorem nat_add {tk : TK} {a b : Nat} (h : a + b < 9223372036854775808) : binA tk .add (.int .i64 a) (.int .i64 b) = some (.int .i64 (a + b : Nat)) := by
  rw [binA_add, ← Int.natCast_add]
  generalize a + b = q at *
  rw [wrap_i64 (by omega) (by omega)]
theorem W43 {z1 z2 : Bool} {o1 o2 : Own} {ar cs : List Int} (h1 : ∀ x ∈ ar, 1 ≤ x ∧ x ≤ 64) (hal : ar.length ≤ 16) (hc : cs.length = ar.length) (hb : ∀ v, v < ar.length → 0 ≤ cs.getD v 0) (m : Mem) : ∀ (j i : Nat), i + j = ar.length → ∀ n : Nat, n * prodF (ar.drop i) + idxF (ar.drop i) i (asgOf cs) ≤ 1000000 →
    L43_3 (IA z1 o1 ar) (IA z2 o2 cs) (.int .i64 n) (.int .i64 ar.length) (.int .i64 i) m (K43_3 (finK cfg.P f43.results.toList)) = some (.int .i64 (n * prodF (ar.drop i) + idxF (ar.drop i) i (asgOf cs) : Nat), m)
  | 0, i, h, n, hn => by
    rw [L43_3_eq, binA_lss, Option.bind_some, ifA_dec, if_neg (by omega), K43_3_x0, List.drop_eq_nil_of_le (by omega)]
    simp [prodF, idxF]
  | j + 1, i, h, n, hn => by
    have hv : i < ar.length := by omega
    have hvc : i < cs.length := by omega
    have hab := h1 _ (List.getElem_mem hv)
    obtain ⟨a, ha⟩ := Int.eq_ofNat_of_zero_le (by omega : 0 ≤ ar[i])
    have hget : ar.getD i 0 = (a : Int) := by rw [List.getD_eq_getElem?_getD, List.getElem?_eq_getElem hv, Option.getD_some, ha]
    have hcg : cs.getD i 0 = cs[i] := by rw [List.getD_eq_getElem?_getD, List.getElem?_eq_getElem hvc, Option.getD_some]
    obtain ⟨c, hcc⟩ := Int.eq_ofNat_of_zero_le (by have := hb i hv; omega : 0 ≤ cs[i])
    have hix : indexAddrA none (IA z1 o1 ar) (.int .i64 i) = some (.vptr [.int .i64 a]) := by rw [idx_IA hv, ha]
    have hic : indexAddrA none (IA z2 o2 cs) (.int .i64 i) = some (.vptr [.int .i64 c]) := by rw [idx_IA hvc, hcc]
    have hP : 1 ≤ prodF (ar.drop (i + 1)) := prod_pos fun x hx => (h1 x (List.drop_subset _ _ hx)).1
    have hy : asgOf cs i = c := by unfold asgOf; rw [hcg, hcc, Int.toNat_natCast]
    have e2 : (a : Int).toNat = a := Int.toNat_natCast a
    have e0 : n * prodF (ar.drop i) + idxF (ar.drop i) i (asgOf cs) = (n * a + c) * prodF (ar.drop (i + 1)) + idxF (ar.drop (i + 1)) (i + 1) (asgOf cs) := by
      rw [prod_step hv, idx_step hv, hget, hy, e2, Nat.add_mul, ← Nat.mul_assoc, Nat.add_assoc]
    rw [e0] at hn ⊢
    have hle : n * a + c ≤ (n * a + c) * prodF (ar.drop (i + 1)) := Nat.le_mul_of_pos_right _ hP
    have hmul : n * a < 9223372036854775808 := by omega
    have hadd : n * a + c < 9223372036854775808 := by omega
    rw [L43_3_eq, binA_lss, Option.bind_some, ifA_dec, if_pos (by omega), hix, Option.bind_some, loadA_one, Option.bind_some, n_mul hmul, Option.bind_some, hic, Option.bind_some, loadA_one, Option.bind_some, nat_add hadd, Option.bind_some, i_add1 (by omega), Option.bind_some]
    exact W43 h1 hal hc hb m j (i + 1) (by omega) (n * a + c) hn
theorem V43 (z1 z2 : Bool) (o1 o2 : Own) {ar cs : List Int} (h1 : ∀ x ∈ ar, 1 ≤ x ∧ x ≤ 64) (hal : ar.length ≤ 16) (hp : prodF ar ≤ 300) (hc : cs.length = ar.length) (hb : ∀ v, v < ar.length → 0 ≤ cs.getD v 0 ∧ cs.getD v 0 < ar.getD v 0) : AP cfg 43 [IA z1 o1 ar, IA z2 o2 cs] = some (.int .i64 (idxF ar 0 (asgOf cs) : Nat)) := by
  have hlt := idx_lt (ar := ar) (a := asgOf cs) (fun v hv => by have := hb v hv; unfold asgOf; omega) ar.length 0 (by omega)
  rw [List.drop_zero] at hlt
  have e := W43 (z1 := z1) (z2 := z2) (o1 := o1) (o2 := o2) h1 hal hc (fun v hv => (hb v hv).1) [] ar.length 0 (by omega) 0 (by rw [List.drop_zero]; omega)
  rw [List.drop_zero, Nat.zero_mul, Nat.zero_add] at e
  refine AP_of (m := []) (v := .int .i64 (idxF ar 0 (asgOf cs) : Nat)) (l := []) ?_ rfl rfl
  rw [T43, len_IA, Option.bind_some]
  exact e
theorem pc43 (z1 z2 : Bool) (o1 o2 : Own) {ar cs : List Int} (h1 : ∀ x ∈ ar, 1 ≤ x ∧ x ≤ 64) (hal : ar.length ≤ 16) (hp : prodF ar ≤ 300) (hc : cs.length = ar.length) (hb : ∀ v, v < ar.length → 0 ≤ cs.getD v 0 ∧ cs.getD v 0 < ar.getD v 0) (m : Mem) : pcall (AP cfg) none m 43 [IA z1 o1 ar, IA z2 o2 cs] = some (.int .i64 (idxF ar 0 (asgOf cs) : Nat), m) := by
  rw [pcall2 (fz_IA z1 o1 ar) (fz_IA z2 o2 cs), V43 z1 z2 _ _ h1 hal hp hc hb]; rfl
/-- Of a row that may be written: it is lost. -/
theorem pc43a (z1 : Bool) (o1 : Own) {ar cs : List Int} (h1 : ∀ x ∈ ar, 1 ≤ x ∧ x ≤ 64) (hal : ar.length ≤ 16) (hp : prodF ar ≤ 300) (hc : cs.length = ar.length) (hb : ∀ v, v < ar.length → 0 ≤ cs.getD v 0 ∧ cs.getD v 0 < ar.getD v 0) {m : Mem} {a : Nat} (hg : m.get a = some (.obj false (cs.map (AV.int .i64)))) : pcall (AP cfg) none m 43 [IA z1 o1 ar, .arr a 0 ar.length none] = some (.int .i64 (idxF ar 0 (asgOf cs) : Nat), m.set a none) := by
  have hf := frz_int hg
  rw [hc] at hf
  have hm : mapF (frz m fuelF) [IA z1 o1 ar, .arr a 0 ar.length none] = some ([IA z1 o1.fr ar, IA false .no cs], [a]) := by
    have h0 := fz_IA z1 o1 ar m
    simp only [mapF, h0, hf, Option.bind_some, Option.map_some]
    rfl
  unfold pcall
  rw [hm]
  simp only [Option.bind_some, Option.isSome_none, Bool.false_and, Bool.false_eq_true, if_false, V43 z1 false o1.fr .no h1 hal hp hc hb, Option.map_some]
  rfl
theorem idx_agree {ar : List Int} {a b : Nat → Nat} (h : ∀ w, w < ar.length → a w = b w) : ∀ (d v : Nat), v + d = ar.length → idxF (ar.drop v) v a = idxF (ar.drop v) v b
  | 0, v, e => by rw [List.drop_eq_nil_of_le (by omega)]; rfl
  | d + 1, v, e => by
    have hv : v < ar.length := by omega
    rw [idx_step hv, idx_step hv, h v hv, idx_agree h d (v + 1) (by omega)]
theorem idx_inj {ar : List Int} (h1 : ∀ x ∈ ar, 1 ≤ x ∧ x ≤ 64) {a b : Nat → Nat} (ha : Asg ar a) (hb : Asg ar b) : ∀ (d v : Nat), v + d = ar.length → idxF (ar.drop v) v a = idxF (ar.drop v) v b → ∀ w, v ≤ w → w < ar.length → a w = b w
  | 0, v, e, _, w, h2, h3 => by omega
  | d + 1, v, e, hh, w, h2, h3 => by
    have hv : v < ar.length := by omega
    rw [idx_step hv, idx_step hv] at hh
    have la := idx_lt ha d (v + 1) (by omega)
    have lb := idx_lt hb d (v + 1) (by omega)
    generalize prodF (ar.drop (v + 1)) = P at *
    generalize hp : idxF (ar.drop (v + 1)) (v + 1) a = p at *
    generalize hq : idxF (ar.drop (v + 1)) (v + 1) b = q at *
    have hP : 0 < P := by omega
    have h4 : a v = b v := by
      have e1 : (a v * P + p) / P = a v := by rw [Nat.mul_comm, Nat.mul_add_div hP, Nat.div_eq_of_lt la]; rfl
      have e2 : (b v * P + q) / P = b v := by rw [Nat.mul_comm, Nat.mul_add_div hP, Nat.div_eq_of_lt lb]; rfl
      rw [← e1, hh, e2]
    have h5 : p = q := by rw [h4] at hh; omega
    by_cases hw : w = v
    · subst hw; exact h4
    · exact idx_inj h1 ha hb d (v + 1) (by omega) (by rw [hp, hq]; exact h5) w (by omega) h3
theorem asg_set {cs : List Int} {v arm : Nat} (hv : v < cs.length) : asgOf (cs.set v arm) = upd (asgOf cs) v arm := by
  funext w
  unfold asgOf upd
  by_cases h : w = v
  · subst h
    rw [if_pos rfl, List.getD_eq_getElem?_getD, List.getElem?_set_self hv, Option.getD_some, Int.toNat_natCast]
  · rw [if_neg h, List.getD_eq_getElem?_getD, List.getElem?_set_ne (fun e => h e.symm), ← List.getD_eq_getElem?_getD]
theorem W42 {z zt : Bool} {o ot : Own} {ar t : List Int} {v arm : Nat} (h1 : ∀ x ∈ ar, 1 ≤ x ∧ x ≤ 64) (hal : ar.length ≤ 16) (hp : prodF ar ≤ 300) (hv : v < ar.length) (ha : (arm : Int) < ar.getD v 0) (ht : t.length = prodF ar) {tn : Nat} {nms : List Nat} {css : List (List Int)} (hnd : nms.Nodup) (hlen : nms.length = css.length) (hcl : css.length ≤ 1000) (hcs : ∀ k (h : k < css.length), Asn ar k css[k]) (htn : tn ∉ nms) : ∀ (j i : Nat), i + j = nms.length → ∀ (m : Mem) (x : AV) (out : List Int) (T : List Nat),
    m.get tn = some (.obj false (nms.map fun a => .arr a 0 ar.length none)) → (∀ a ∈ nms, a < m.length) → (∀ k (h : k < nms.length) (h2 : k < css.length), i ≤ k → m.get nms[k] = some (.obj false (css[k].map (AV.int .i64)))) → GR 3 m x (out.map (AV.int .i64)) T → (∀ y ∈ T, y ≠ tn ∧ y ∉ nms) → out.length = i → (∀ k (h : k < out.length) (h2 : k < css.length), out[k] = t.getD (idxF ar 0 (upd (asgOf css[k]) v arm)) 0) →
    ∃ (m' : Mem) (x' : AV) (out' : List Int) (T' : List Nat), L42_3 (IA z o ar) (IA zt ot t) (.int .i64 v) (.int .i64 arm) x (.arr tn 0 nms.length none) (.int .i64 nms.length) (.int .i64 i) m (K42_3 (finK cfg.P f42.results.toList)) = some (x', m') ∧ GR 3 m' x' (out'.map (AV.int .i64)) T' ∧ out'.length = nms.length ∧ ∀ k (h : k < out'.length) (h2 : k < css.length), out'[k] = t.getD (idxF ar 0 (upd (asgOf css[k]) v arm)) 0
  | 0, i, h, m, x, out, T, hg, hnl, hr, hx, hT, ho, hval => by
    refine ⟨m, x, out, T, ?_, hx, by omega, hval⟩
    rw [L42_3_eq, binA_lss, Option.bind_some, ifA_dec, if_neg (by omega), K42_3_x0]
  | j + 1, i, h, m, x, out, T, hg, hnl, hr, hx, hT, ho, hval => by
    have hi : i < nms.length := by omega
    have hi2 : i < css.length := by omega
    have hgi := hr i hi hi2 (Nat.le_refl _)
    have A := hcs i hi2
    have hvc : v < css[i].length := by rw [A.len]; exact hv
    have hml := get_lt hgi
    have hmem : nms[i] ∈ nms := List.getElem_mem hi
    have hix : indexAddrA none (.arr tn 0 nms.length none) (.int .i64 i) = some (.ptr tn i) := index_arr hi
    have ld : loadA none m (.ptr tn i) = some (.arr nms[i] 0 ar.length none) := by
      rw [ld_ptr, hg, objE_obj, Option.bind_some]
      simp [cutSh, hi]
    have hiv : indexAddrA none (.arr nms[i] 0 ar.length none) (.int .i64 v) = some (.ptr nms[i] v) := index_arr hv
    have st := st_int (y := (arm : Int)) hgi hvc
    have hg1 : Mem.get (m.set nms[i] (some (.obj false ((css[i].set v (arm : Int)).map (AV.int .i64))))) nms[i] = some (.obj false ((css[i].set v (arm : Int)).map (AV.int .i64))) := g_seq rfl hml
    have bd1 : ∀ w, w < ar.length → 0 ≤ (css[i].set v (arm : Int)).getD w 0 ∧ (css[i].set v (arm : Int)).getD w 0 < ar.getD w 0 := fun w hw => by
      by_cases hwv : w = v
      · subst hwv
        rw [List.getD_eq_getElem?_getD, List.getElem?_set_self hvc, Option.getD_some]
        omega
      · rw [List.getD_eq_getElem?_getD, List.getElem?_set_ne (fun e => hwv e.symm), ← List.getD_eq_getElem?_getD]
        exact A.bd w hw
    have p43 := pc43a z o h1 hal hp (by rw [List.length_set]; exact A.len) bd1 hg1
    rw [List.set_set, asg_set hvc] at p43
    have hixlt : idxF ar 0 (upd (asgOf css[i]) v arm) < t.length := by
      have := idx_lt (A.asg.upd ha) ar.length 0 (by omega)
      rw [List.drop_zero] at this
      omega
    have hit : indexAddrA none (IA zt ot t) (.int .i64 (idxF ar 0 (upd (asgOf css[i]) v arm) : Nat)) = some (.vptr [.int .i64 (t.getD (idxF ar 0 (upd (asgOf css[i]) v arm)) 0)]) := by
      rw [idx_IA hixlt, List.getD_eq_getElem?_getD, List.getElem?_eq_getElem hixlt, Option.getD_some]
    have hx1 : GR 3 (m.set nms[i] none) x (out.map (AV.int .i64)) T := gr_move hx fun y hy => g_sne (fun e : y = nms[i] => (hT y hy).2 (by rw [e]; exact hmem))
    obtain ⟨x2, m2, T2, ea, g2, f2, gr2⟩ := gr_app (b := 8) hx1 (by rw [List.length_map]; omega) (by omega) (.int .i64 (t.getD (idxF ar 0 (upd (asgOf css[i]) v arm)) 0))
    have hll : (m.set nms[i] (none : Option Ent)).length = m.length := List.length_set
    have htl := get_lt hg
    obtain ⟨m', x', out', T', e, k⟩ := W42 (z := z) (zt := zt) (o := o) (ot := ot) h1 hal hp hv ha ht hnd hlen hcl hcs htn j (i + 1) (by omega) m2 x2 (out ++ [t.getD (idxF ar 0 (upd (asgOf css[i]) v arm)) 0]) T2
      (by rw [f2.get tn (by rw [hll]; exact htl) (fun hh => (hT tn hh).1 rfl), g_sne (fun e : tn = nms[i] => htn (by rw [e]; exact hmem))]; exact hg)
      (fun a ha => by have := hnl a ha; have := f2.len; omega)
      (fun q hq hq2 hiq => by
        have hgq := hr q hq hq2 (by omega)
        have hql := get_lt hgq
        have hqm : nms[q] ∈ nms := List.getElem_mem hq
        have hne : nms[q] ≠ nms[i] := fun e => by have := nodup_inj hnd hq hi e; omega
        rw [f2.get _ (by rw [hll]; exact hql) (fun hh => (hT _ hh).2 hqm), g_sne hne]
        exact hgq)
      (by rw [List.map_append]; exact g2)
      (fun y hy => by
        rcases gr2 y hy with hh | hh
        · exact hT y hh
        · rw [hll] at hh
          refine ⟨by omega, fun hm => ?_⟩
          have := hnl y hm; omega)
      (by simp [ho])
      (fun q hq hq2 => by
        by_cases hqo : q < out.length
        · rw [List.getElem_append_left hqo]; exact hval q hqo hq2
        · have : q = i := by simp at hq; omega
          subst this
          have e1 : (out ++ [t.getD (idxF ar 0 (upd (asgOf css[q]) v arm)) 0])[q]'hq = t.getD (idxF ar 0 (upd (asgOf css[q]) v arm)) 0 := by
            rw [List.getElem_append_right (by omega)]; simp [ho]
          rw [e1])
    refine ⟨m', x', out', T', ?_, k⟩
    have bi : buildSliceA none [.int .i64 (t.getD (idxF ar 0 (upd (asgOf css[i]) v arm)) 0)] = some (.lst none false .full [.int .i64 (t.getD (idxF ar 0 (upd (asgOf css[i]) v arm)) 0)]) := rfl
    rw [L42_3_eq, binA_lss, Option.bind_some, ifA_dec, if_pos (by omega), hix, Option.bind_some, ld, Option.bind_some, hiv, Option.bind_some, st, Option.bind_some, p43, Option.bind_some, hit, Option.bind_some, loadA_one, Option.bind_some, bi, Option.bind_some, ea, Option.bind_some, i_add1 (by omega), Option.bind_some]
    exact e
theorem V42 (z zt : Bool) (o ot : Own) {ar t : List Int} {v arm : Nat} (h1 : ∀ x ∈ ar, 1 ≤ x ∧ x ≤ 64) (hal : ar.length ≤ 16) (hp : prodF ar ≤ 300) (hv : v < ar.length) (ha : (arm : Int) < ar.getD v 0) (ht : t.length = prodF ar) :
    ∃ (o' : Own) (u : List Int), AP cfg 42 [IA z o ar, IA zt ot t, .int .i64 v, .int .i64 arm] = some (IA false o' u) ∧ u.length = prodF ar ∧ ∀ y, Asg ar y → u.getD (idxF ar 0 y) 0 = t.getD (idxF ar 0 (upd y v arm)) 0 := by
  obtain ⟨m1, tn, nms, css, e35, g, hl, hc⟩ := C35 z o ar h1 hal hp []
  have hpos := prod_pos fun x hx => (h1 x hx).1
  have hlen := g.len
  have hxx := g.x
  rcases hxx with ⟨hh, _⟩ | ⟨t', e, hn0, hg, _, htn⟩
  · cases hh
  · cases e
    obtain ⟨m', x', out, T, e, hx, ho, hval⟩ := W42 (z := z) (zt := zt) (o := o) (ot := ot) h1 hal hp hv ha ht g.nd hlen (by omega) hc htn nms.length 0 (by omega) m1 (.lst none true .full []) [] [] hg g.lt (fun k h h2 _ => (g.row k h h2).1) .none (by simp) rfl (fun k h => by simp at h)
    obtain ⟨z', o', rfl, hz⟩ := gr_out hx
    have hz' : z' = false := by
      cases z' with
      | false => rfl
      | true => have := hz rfl; rw [List.map_eq_nil_iff] at this; rw [this] at ho; simp at ho; omega
    subst hz'
    refine ⟨o'.fr, out, AP_of (m := m') (v := IA false o' out) (l := []) ?_ (by cases o' <;> rfl) rfl, by omega, fun y hy => ?_⟩
    · have hlen : lenA false (.arr tn 0 nms.length none) = some (.int .i64 nms.length) := rfl
      rw [T42, e35, Option.bind_some, hlen, Option.bind_some]
      exact e
    · have hlt := idx_lt hy ar.length 0 (by omega)
      rw [List.drop_zero] at hlt
      have hko : idxF ar 0 y < out.length := by omega
      have hkc : idxF ar 0 y < css.length := by omega
      rw [List.getD_eq_getElem?_getD, List.getElem?_eq_getElem hko, Option.getD_some, hval _ hko hkc]
      congr 1
      have A := hc _ hkc
      have hag := idx_inj h1 A.asg hy ar.length 0 (by omega) (by rw [List.drop_zero]; exact A.idx)
      have hal2 : ∀ w, w < ar.length → upd (asgOf css[idxF ar 0 y]) v arm w = upd y v arm w := fun w hw => by
        unfold upd
        split
        · rfl
        · exact hag w (Nat.zero_le _) hw
      have := idx_agree hal2 ar.length 0 (by omega)
      rw [List.drop_zero] at this
      exact this
end Go.Ab

/- Apply; DiagramApplies in values. -/
set_option linter.unusedVariables false
set_option linter.unusedSimpArgs false
set_option linter.unusedSectionVars false
set_option maxRecDepth 100000
namespace Go.Ab
open Go.Proofs Go.Proofs.Tryd

section
variable {s bf : Nat} {zs zf : Bool} {os oF : Own} {ar fl : List Int} {F : List Nat} {l : List ND} {a b : Nat}
end
/-! ### The law -/
end Go.Ab
