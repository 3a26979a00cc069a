/- Products of matrices, in values: the reference's side. -/
import Derived.Test.YtlapgjmmlbnehaaCP4
set_option linter.unusedVariables false
set_option linter.unusedSimpArgs false
set_option maxRecDepth 100000
namespace Go.Ab
open Go.Proofs.Try

theorem Wr.upd {es : List RV} {L k : Nat} {Q Q' : Nat → Rat} (h : Wr es L k Q (fun _ => True)) {p : Nat} {r : RV} (hp : p < L) (hq : r.q = Q' p) (hf : r.fr = r) (hr : ROk k r) (hd : ∀ p', p' < L → p' ≠ p → Q' p' = Q p') : Wr (es.set p r) L k Q' (fun _ => True) where
  len := by rw [List.length_set]; exact h.len
  fr s hs := by
    rcases List.mem_or_eq_of_mem_set hs with hs | rfl
    · exact h.fr s hs
    · exact hf
  ok s hs := by
    rcases List.mem_or_eq_of_mem_set hs with hs | rfl
    · exact h.ok s hs
    · exact hr
  q p' hp' _ := by
    by_cases e : p = p'
    · subst e
      rw [List.getD_eq_getElem?_getD, List.getElem?_map, List.getElem?_set_self (by rw [h.len]; exact hp)]
      exact hq
    · rw [List.getD_eq_getElem?_getD, List.getElem?_map, List.getElem?_set_ne e, ← List.getElem?_map, ← List.getD_eq_getElem?_getD, h.q p' hp' trivial, hd p' hp' (fun e' => e e'.symm)]
theorem Wr.congr {es : List RV} {L k : Nat} {Q Q' : Nat → Rat} (h : Wr es L k Q (fun _ => True)) (hq : ∀ p, p < L → Q' p = Q p) : Wr es L k Q' (fun _ => True) := ⟨h.len, h.fr, h.ok, fun p hp _ => by rw [h.q p hp trivial, hq p hp]⟩
theorem Wr.get {es : List RV} {L k : Nat} {Q : Nat → Rat} (h : Wr es L k Q (fun _ => True)) {p : Nat} (hp : p < es.length) : es[p].q = Q p := by
  have := h.q p (by rw [← h.len]; exact hp) trivial
  rw [List.getD_eq_getElem?_getD, List.getElem?_map, List.getElem?_eq_getElem hp] at this
  exact this
/-- The cells ahead of n are done, the n-th has its first l summands. -/
def stQ (x y : MV) (c d n l p : Nat) : Rat := if p < n then mulQ x y c d p else if p = n then dotQ x y c d (p / d) (p % d) l else 0
theorem stQ_next (x y : MV) (c d n p : Nat) : stQ x y c d n c p = stQ x y c d (n + 1) 0 p := by
  unfold stQ
  by_cases h1 : p < n
  · rw [if_pos h1, if_pos (by omega)]
  · rw [if_neg h1]
    by_cases h2 : p = n
    · rw [if_pos h2, if_pos (by omega)]; rfl
    · rw [if_neg h2, if_neg (by omega)]
      by_cases h3 : p = n + 1
      · rw [if_pos h3]; rfl
      · rw [if_neg h3]
theorem stQ_zero (x y : MV) (c d p : Nat) : stQ x y c d 0 0 p = 0 := by
  unfold stQ
  rw [if_neg (by omega)]
  split <;> rfl
theorem row_col {i j d : Nat} (hj : j < d) : (i * d + j) / d = i ∧ (i * d + j) % d = j := by
  obtain ⟨a, b⟩ := tr_cell (r := d) (i := j) (j := i) hj
  exact ⟨b, a⟩

section
variable {x y : MV} {k K r c d : Nat}
theorem W81_9 {i j : Nat} (hx : LOk k x.lv) (hy : LOk k y.lv) (hk1 : 1 ≤ k) (hkK : 1 ≤ K) (hK : K + (k + k) < 2 ^ 36) (hxc : x.cols = c) (hyd : y.cols = d) (hi : i < r) (hj : j < d) (hr : r ≤ 60) (hc : c ≤ 60) (hd : d ≤ 60) (hlx : x.lv.es.length = r * c) (hly : y.lv.es.length = c * d)
    (hB : ∀ l, l ≤ c → Bd K (dotQ x y c d i j l)) (Kt : Ex → St → Option (AV × Mem)) : ∀ (n l : Nat) (es : List RV), l + n = c → Wr es (r * d) K (stQ x y c d (i * d + j) l) (fun _ => True) →
    ∃ es', Wr es' (r * d) K (stQ x y c d (i * d + j) c) (fun _ => True) ∧
      L81_9 (.ptr 0 0) (.ptr 1 0) (.ptr 2 0) (.ptr 4 0) (.int .i64 i) (.int .i64 j) (.int .i64 l) [cM x, cM y, cM zM, cA es, cB r d 3 (r * d)] Kt = Kt (.exit 4) (O81_9 (.ptr 0 0) (.ptr 1 0) (.ptr 2 0) (.ptr 4 0) (.int .i64 i) (.int .i64 j) [cM x, cM y, cM zM, cA es', cB r d 3 (r * d)]) := by
  intro n
  induction n with
  | zero =>
    intro l es hl hw
    obtain rfl : l = c := by omega
    refine ⟨es, hw, ?_⟩
    rw [L81_9_eq, fld1, Option.bind_some, mld1 (x := x) rfl, Option.bind_some, hxc, n_lss, Option.bind_some, ifA_dec, if_neg (by omega)]
  | succ n ih =>
    intro l es hl hw
    have hlc : l < c := by omega
    obtain ⟨a1, a2⟩ := at_cell (i := i) (c := c) (j := l) (by omega) hc (by omega)
    obtain ⟨b1, b2⟩ := at_cell (i := l) (c := d) (j := j) (by omega) hd (by omega)
    obtain ⟨d1, d2⟩ := at_cell (i := i) (c := d) (j := j) (by omega) hd (by omega)
    have p1 : i * c + l < x.lv.es.length := by rw [hlx]; exact cell_lt60 hi hlc
    have p2 : l * d + j < y.lv.es.length := by rw [hly]; exact cell_lt60 hlc hj
    have p3 : i * d + j < r * d := cell_lt60 hi hj
    have p3' : i * d + j < es.length := by rw [hw.len]; exact p3
    have f1 := hx.fr _ (List.getElem_mem p1)
    have f2 := hy.fr _ (List.getElem_mem p2)
    have f3 := hw.fr _ (List.getElem_mem p3')
    have r1 := hx.ok _ (List.getElem_mem p1)
    have r2 := hy.ok _ (List.getElem_mem p2)
    have r3 := hw.ok _ (List.getElem_mem p3')
    obtain ⟨e1, e2⟩ := row_col (i := i) hj
    have hcur : es[i * d + j].q = dotQ x y c d i j l := by
      rw [hw.get p3', stQ, if_neg (by omega), if_pos rfl, e1, e2]
    obtain ⟨t, t1, t2, t3⟩ := V29 r1 r2 hk1 (by omega)
    have bt : Bd (k + k) (x.lv.es[i * c + l].q * y.lv.es[l * d + j].q) := Bd_mul (r1.bd hk1) (r2.bd hk1) hk1
    obtain ⟨u, u1, u2, u3⟩ := V76 (k := K + (k + k)) (r3.mono (by omega)) ((t2.ok bt (by omega)).mono (by omega)) (by omega) (by omega)
    have hq : es[i * d + j].q + t.q = dotQ x y c d i j (l + 1) := by
      rw [hcur, t2.q, ← qAt_get p1, ← qAt_get p2]; rfl
    rw [hq] at u2
    obtain ⟨es', w1, w2⟩ := ih (l + 1) (es.set (i * d + j) u) (by omega) (hw.upd p3 (by rw [u2.q, stQ, if_neg (by omega), if_pos rfl, e1, e2]) u3 (u2.ok (hB (l + 1) (by omega)) (by omega)) (fun p' _ hne => by
      unfold stQ
      by_cases h1 : p' < i * d + j
      · rw [if_pos h1, if_pos h1]
      · rw [if_neg h1, if_neg h1, if_neg hne, if_neg hne]))
    refine ⟨es', w1, ?_⟩
    have hld : loadA none [cM x, cM y, cM zM, cA es, cB r d 3 (r * d)] (.ptr 4 2) = some (.arr 3 0 (r * d) (some 3)) := rfl
    rw [L81_9_eq, fld1, Option.bind_some, mld1 (x := x) rfl, Option.bind_some, hxc, n_lss, Option.bind_some, ifA_dec, if_pos hlc, fld2, Option.bind_some, hld, Option.bind_some, fld1, Option.bind_some, mld1 (x := y) rfl, Option.bind_some, hyd, d1, Option.bind_some, d2, Option.bind_some,
      Option.bind_some, hld, Option.bind_some, Option.bind_some, mld1 (x := y) rfl, Option.bind_some, hyd, d1, Option.bind_some, d2, Option.bind_some, arr_index p3, Option.bind_some, arr_load (es := es) rfl p3', Option.bind_some]
    rw [fld2, Option.bind_some, mld2 (x := x) rfl, Option.bind_some, Option.bind_some, mld1 (x := x) rfl, Option.bind_some, hxc, a1, Option.bind_some, a2, Option.bind_some, index_lv hx p1, Option.bind_some, load_row, Option.bind_some,
      fld2, Option.bind_some, mld2 (x := y) rfl, Option.bind_some, Option.bind_some, mld1 (x := y) rfl, Option.bind_some, hyd, b1, Option.bind_some, b2, Option.bind_some, index_lv hy p2, Option.bind_some, load_row, Option.bind_some,
      pcRR, f1, f2, t1, Option.map_some, Option.bind_some, pcRR, f3, t3, u1, Option.map_some, Option.bind_some, Option.bind_some, arr_store (es := es) rfl p3' u3, Option.bind_some, i_add1 (by omega), Option.bind_some]
    exact w2
theorem W81_6 {i : Nat} (hx : LOk k x.lv) (hy : LOk k y.lv) (hk1 : 1 ≤ k) (hkK : 1 ≤ K) (hK : K + (k + k) < 2 ^ 36) (hxc : x.cols = c) (hyd : y.cols = d) (hi : i < r) (hr : r ≤ 60) (hc : c ≤ 60) (hd : d ≤ 60) (hlx : x.lv.es.length = r * c) (hly : y.lv.es.length = c * d)
    (hB : ∀ i j l, i < r → j < d → l ≤ c → Bd K (dotQ x y c d i j l)) (Kt : Ex → St → Option (AV × Mem)) : ∀ (n j : Nat) (es : List RV), j + n = d → Wr es (r * d) K (stQ x y c d (i * d + j) 0) (fun _ => True) →
    ∃ es', Wr es' (r * d) K (stQ x y c d ((i + 1) * d) 0) (fun _ => True) ∧
      L81_6 (.ptr 0 0) (.ptr 1 0) (.ptr 2 0) (.ptr 4 0) (.int .i64 i) (.int .i64 j) [cM x, cM y, cM zM, cA es, cB r d 3 (r * d)] Kt = Kt (.exit 2) (O81_6 (.ptr 0 0) (.ptr 1 0) (.ptr 2 0) (.ptr 4 0) (.int .i64 i) [cM x, cM y, cM zM, cA es', cB r d 3 (r * d)]) := by
  intro n
  induction n with
  | zero =>
    intro j es hj hw
    obtain rfl : j = d := by omega
    refine ⟨es, by rw [Nat.succ_mul]; exact hw, ?_⟩
    rw [L81_6_eq, fld1, Option.bind_some, mld1 (x := y) rfl, Option.bind_some, hyd, n_lss, Option.bind_some, ifA_dec, if_neg (by omega)]
  | succ n ih =>
    intro j es hj hw
    have hjd : j < d := by omega
    obtain ⟨es1, a1, a2⟩ := W81_9 (i := i) (j := j) hx hy hk1 hkK hK hxc hyd hi hjd hr hc hd hlx hly (fun l hl => hB i j l hi hjd hl) (K81_9 Kt) c 0 es (by omega) hw
    obtain ⟨es', w1, w2⟩ := ih (j + 1) es1 (by omega) (a1.congr fun p _ => (stQ_next x y c d (i * d + j) p).symm)
    refine ⟨es', w1, ?_⟩
    rw [L81_6_eq, fld1, Option.bind_some, mld1 (x := y) rfl, Option.bind_some, hyd, n_lss, Option.bind_some, ifA_dec, if_pos hjd]
    refine Eq.trans ?_ (a2.trans ?_)
    · rfl
    rw [K81_9_x4, i_add1 (by omega), Option.bind_some]
    exact w2
theorem W81_3 (hx : LOk k x.lv) (hy : LOk k y.lv) (hk1 : 1 ≤ k) (hkK : 1 ≤ K) (hK : K + (k + k) < 2 ^ 36) (hxr : x.rows = r) (hxc : x.cols = c) (hyd : y.cols = d) (hr : r ≤ 60) (hc : c ≤ 60) (hd : d ≤ 60) (hlx : x.lv.es.length = r * c) (hly : y.lv.es.length = c * d)
    (hB : ∀ i j l, i < r → j < d → l ≤ c → Bd K (dotQ x y c d i j l)) (Kt : Ex → St → Option (AV × Mem)) : ∀ (n i : Nat) (es : List RV), i + n = r → Wr es (r * d) K (stQ x y c d (i * d) 0) (fun _ => True) →
    ∃ es', Wr es' (r * d) K (mulQ x y c d) (fun _ => True) ∧
      L81_3 (.ptr 0 0) (.ptr 1 0) (.ptr 2 0) (.ptr 4 0) (.int .i64 i) [cM x, cM y, cM zM, cA es, cB r d 3 (r * d)] Kt = Kt (.exit 0) (O81_3 (.ptr 2 0) (.ptr 4 0) [cM x, cM y, cM zM, cA es', cB r d 3 (r * d)]) := by
  intro n
  induction n with
  | zero =>
    intro i es hi hw
    obtain rfl : i = r := by omega
    refine ⟨es, hw.congr (fun p hp => by unfold stQ; rw [if_pos hp]), ?_⟩
    rw [L81_3_eq, fld0, Option.bind_some, mld0 (x := x) rfl, Option.bind_some, hxr, n_lss, Option.bind_some, ifA_dec, if_neg (by omega)]
  | succ n ih =>
    intro i es hi hw
    have hir : i < r := by omega
    obtain ⟨es1, a1, a2⟩ := W81_6 (i := i) hx hy hk1 hkK hK hxc hyd hir hr hc hd hlx hly hB (K81_6 Kt) d 0 es (by omega) hw
    obtain ⟨es', w1, w2⟩ := ih (i + 1) es1 (by omega) a1
    refine ⟨es', w1, ?_⟩
    rw [L81_3_eq, fld0, Option.bind_some, mld0 (x := x) rfl, Option.bind_some, hxr, n_lss, Option.bind_some, ifA_dec, if_pos hir]
    refine Eq.trans ?_ (a2.trans ?_)
    · rfl
    rw [K81_6_x2, i_add1 (by omega), Option.bind_some]
    exact w2
theorem V81 (hx : IsM k x) (hy : IsM k y) (hk1 : 1 ≤ k) (hkK : 1 ≤ K) (hK : K + (k + k) < 2 ^ 36) (hxr : x.rows = r) (hxc : x.cols = c) (hyd : y.cols = d) (hr : r ≤ 60) (hc : c ≤ 60) (hd : d ≤ 60) (hlx : x.lv.es.length = r * c) (hly : y.lv.es.length = c * d)
    (hB : ∀ i j l, i < r → j < d → l ≤ c → Bd K (dotQ x y c d i j l)) : ∃ z : MV, AP cfg 81 [x.av, y.av] = some z.av ∧ Res z 0 0 r d (mulQ x y c d) K := by
  have start : AC cfg 81 [x.av, y.av] [] = AC cfg 81 [x.av, y.av] [] := rfl
  conv at start => rhs; rw [T81, box_mv, Option.bind_some, box_mv, Option.bind_some]
  simp only [new_m, new_r, List.length_nil, List.nil_append, List.length_cons, List.cons_append, Nat.zero_add, Nat.reduceAdd] at start
  rw [fld0, Option.bind_some, mld0 (x := x) rfl, Option.bind_some, fld1, Option.bind_some, mld1 (x := y) rfl, Option.bind_some, hxr, hyd] at start
  rcases thaw61 (a := r) (b := d) hr hd [cM x, cM y, cM zM] with ⟨h0, h1⟩ | ⟨h0, h1⟩
  · rw [h1, Option.bind_some] at start
    simp only [new_m, new_r, List.length_nil, List.nil_append, List.length_cons, List.cons_append, Nat.zero_add, Nat.reduceAdd] at start
    rw [mstA (x := zM) rfl, Option.bind_some] at start
    simp only [List.set_cons_zero, List.set_cons_succ] at start
    have w2 : ∀ (n i : Nat), i + n = r → L81_3 (.ptr 0 0) (.ptr 1 0) (.ptr 2 0) (.ptr 3 0) (.int .i64 i) [cM x, cM y, cM zM, cM ⟨r, d, nilL⟩] (K81_3 (finK cfg.P f81.results.toList)) = K81_3 (finK cfg.P f81.results.toList) (.exit 0) (O81_3 (.ptr 2 0) (.ptr 3 0) [cM x, cM y, cM zM, cM ⟨r, d, nilL⟩]) := by
      intro n
      induction n with
      | zero =>
        intro i hi
        rw [L81_3_eq, fld0, Option.bind_some, mld0 (x := x) rfl, Option.bind_some, hxr, n_lss, Option.bind_some, ifA_dec, if_neg (by omega)]
      | succ n ih =>
        intro i hi
        have hd0 : d = 0 := by
          rcases Nat.mul_eq_zero.1 h0 with h | h
          · omega
          · exact h
        rw [L81_3_eq, fld0, Option.bind_some, mld0 (x := x) rfl, Option.bind_some, hxr, n_lss, Option.bind_some, ifA_dec, if_pos (by omega), L81_6_eq, fld1, Option.bind_some, mld1 (x := y) rfl, Option.bind_some, hyd, hd0, show (AV.int .i64 0) = .int .i64 ((0 : Nat) : Int) from rfl, n_lss, Option.bind_some, ifA_dec, if_neg (by omega), K81_6_x2, i_add1 (by omega), Option.bind_some]
        have := ih (i + 1) (by omega)
        rw [hd0] at this
        exact this
    have start := start.trans (w2 r 0 (by omega))
    rw [K81_3_x0, mldA (x := ⟨r, d, nilL⟩) rfl, Option.bind_some, mstA (x := zM) rfl, Option.bind_some] at start
    simp only [List.set_cons_zero, List.set_cons_succ] at start
    rw [mldA (x := ⟨r, d, nilL⟩) rfl, Option.bind_some] at start
    exact ⟨⟨r, d, nilL⟩, AP_ofz _ _ (fz_mv ⟨r, d, nilL⟩) (noV_mv _) start, Res.nil h0⟩
  · obtain ⟨es', w1, w2⟩ := W81_3 hx.ok hy.ok hk1 hkK hK hxr hxc hyd hr hc hd hlx hly hB (K81_3 (finK cfg.P f81.results.toList)) r 0 (List.replicate (r * d) zeroF) (by omega)
      ⟨List.length_replicate, (Wr.zero (r * d) K (fun _ => 0) (by omega)).fr, (Wr.zero (r * d) K (fun _ => 0) (by omega)).ok, fun p hp _ => by
        rw [Nat.zero_mul, stQ_zero, List.getD_eq_getElem?_getD, List.getElem?_map, List.getElem?_replicate, if_pos hp]
        exact canF_zero.q⟩
    rw [h1, Option.bind_some] at start
    simp only [new_m, new_r, List.length_nil, List.nil_append, List.length_cons, List.cons_append, Nat.zero_add, Nat.reduceAdd] at start
    rw [bldMz _ (x := zM) rfl _ _ _ rfl, Option.bind_some] at start
    simp only [List.set_cons_zero, List.set_cons_succ] at start
    have start := start.trans w2
    have l1 : ∀ e : Option Ent, loadA (some 3) [cM x, cM y, cM zM, e, cB r d 3 (r * d)] (.ptr 4 0) = some (.agg [.int .i64 r, .int .i64 d, .arr 3 0 (r * d) (some 3)]) := fun _ => rfl
    rw [K81_3_x0, l1, Option.bind_some, bldMz _ (x := zM) rfl _ _ _ rfl, Option.bind_some] at start
    simp only [List.set_cons_zero, List.set_cons_succ] at start
    have l2 : ∀ e e' : Option Ent, loadA (some 3) [cM x, cM y, some (.obj true [.int .i64 r, .int .i64 d, .arr 3 0 (r * d) (some 3)]), e, e'] (.ptr 2 0) = some (.agg [.int .i64 r, .int .i64 d, .arr 3 0 (r * d) (some 3)]) := fun _ _ => rfl
    rw [l2, Option.bind_some] at start
    have hf := frz_box (m := [cM x, cM y, some (.obj true [.int .i64 r, .int .i64 d, .arr 3 0 (r * d) (some 3)]), cA es', cB r d 3 (r * d)]) (nR := 3) (es := es') r d rfl w1.fr 6
    rw [w1.len] at hf
    exact ⟨_, AP_of start hf (by rfl), w1.res⟩
end

/-! ### Mul -/
def mulE (x y : MV) : Int := if rightM x = true ∧ rightM y = true then if x.cols = y.rows then 0 else 30 else 1
/-- A bound for the sums of products. -/
theorem dot_bd {x y : MV} {k c d i j : Nat} (hx : LOk k x.lv) (hy : LOk k y.lv) (hk1 : 1 ≤ k) : ∀ l : Nat, Bd (1 + l * (k + k + 1)) (dotQ x y c d i j l)
  | 0 => Bd_zero (by omega)
  | l + 1 => by
    have h := Bd_add (dot_bd (c := c) (d := d) (i := i) (j := j) hx hy hk1 l) (Bd_mul (qAt_bd (p := i * c + l) hx hk1) (qAt_bd (p := l * d + j) hy hk1) hk1) (by omega)
    have e : 1 + (l + 1) * (k + k + 1) = 1 + l * (k + k + 1) + (k + k) + 1 := by rw [Nat.succ_mul]; omega
    rw [e]
    exact h
theorem right_len {x : MV} (h : rightM x = true) : ∃ r c : Nat, x.rows = r ∧ x.cols = c ∧ r ≤ 60 ∧ c ≤ 60 ∧ x.lv.es.length = r * c := by
  obtain ⟨z1, z2, z3, z4, z5⟩ := size_of_right h
  obtain ⟨r, hr⟩ := Int.eq_ofNat_of_zero_le z1
  obtain ⟨c, hc⟩ := Int.eq_ofNat_of_zero_le z3
  refine ⟨r, c, hr, hc, by omega, by omega, ?_⟩
  rw [hr, hc, ← Int.natCast_mul] at z5
  exact Int.ofNat_inj.1 z5
theorem V41 {x y : MV} {k K : Nat} (hx : IsM k x) (hy : IsM k y) (hk1 : 1 ≤ k) (hkK : 1 + 60 * (k + k + 1) ≤ K) (hK : K < 2 ^ 35) :
    ∃ z e, AP cfg 41 [x.av, y.av] = some (.tup [z.av, .int .i64 e]) ∧ Res z e (mulE x y) x.rows.toNat y.cols.toNat (mulQ x y x.cols.toNat y.cols.toNat) K := by
  have e20 := V20 hx.ok (by omega) (by have := hx.len; omega)
  have e20' := V20 hy.ok (by omega) (by have := hy.len; omega)
  have gx : ∀ e : Mem, (cM x :: e)[0]? = some (cM x) := fun _ => rfl
  have gy : ∀ e : Mem, (cM x :: cM y :: e)[1]? = some (cM y) := fun _ => rfl
  have start : AC cfg 41 [x.av, y.av] [] = AC cfg 41 [x.av, y.av] [] := rfl
  conv at start => rhs; rw [T41, box_mv, Option.bind_some, box_mv, Option.bind_some]
  simp only [new_m, new_r, List.length_nil, List.nil_append, List.length_cons, List.cons_append, Nat.zero_add, Nat.reduceAdd] at start
  rw [mldA (gx _), Option.bind_some, pcM, hx.fr, e20, Option.map_some, Option.bind_some, not_b, Option.bind_some] at start
  unfold mulE
  cases hbx : rightM x with
  | false =>
    rw [hbx, Bool.not_false, ifA_true, bldM, Option.bind_some, mstA (x := zM) rfl, Option.bind_some] at start
    simp only [List.set_cons_zero, List.set_cons_succ] at start
    rw [mldA (x := zM) rfl, Option.bind_some] at start
    rw [if_neg (fun h => by cases h.1)]
    exact ⟨zM, 1, retM2 start rfl, Res.bad' (by decide)⟩
  | true =>
    rw [hbx, Bool.not_true, ifA_false, mldA (gy _), Option.bind_some, pcM, hy.fr, e20', Option.map_some, Option.bind_some, not_b, Option.bind_some] at start
    cases hby : rightM y with
    | false =>
      rw [hby, Bool.not_false, ifA_true, bldM, Option.bind_some, mstA (x := zM) rfl, Option.bind_some] at start
      simp only [List.set_cons_zero, List.set_cons_succ] at start
      rw [mldA (x := zM) rfl, Option.bind_some] at start
      rw [if_neg (fun h => by cases h.2)]
      exact ⟨zM, 1, retM2 start rfl, Res.bad' (by decide)⟩
    | true =>
      rw [hby, Bool.not_true, ifA_false, fld1, Option.bind_some, mld1 (gx _), Option.bind_some, fld0, Option.bind_some, mld0 (gy _), Option.bind_some, binA_neq, Option.bind_some, ifA_dec] at start
      rw [if_pos ⟨rfl, rfl⟩]
      by_cases c1 : x.cols = y.rows
      · obtain ⟨r, c, hr, hc, r6, c6, hlx⟩ := right_len hbx
        obtain ⟨c', d, hc', hd, _, d6, hly⟩ := right_len hby
        obtain rfl : c = c' := by rw [c1, hc'] at hc; omega
        have hB : ∀ i j l, i < r → j < d → l ≤ c → Bd K (dotQ x y c d i j l) := fun i j l _ _ hl => (dot_bd hx.ok hy.ok hk1 l).mono (by
          have : l * (k + k + 1) ≤ 60 * (k + k + 1) := Nat.mul_le_mul_right _ (by omega)
          omega)
        obtain ⟨z, f1, f2⟩ := V73 hx hy hk1 (by omega) (by omega) hr hc hd r6 c6 d6 hlx hly hB
        rw [if_neg (fun h => h c1), mldA (gx _), Option.bind_some, mldA (gy _), Option.bind_some, pcall2 (fz_mv x) (fz_mv y), hx.fr, hy.fr, f1, Option.map_some, Option.bind_some, mstA (x := zM) rfl, Option.bind_some] at start
        simp only [List.set_cons_zero, List.set_cons_succ] at start
        rw [mldA (x := z) rfl, Option.bind_some] at start
        rw [if_pos c1, hr, hc, hd]
        exact ⟨z, 0, retM2 start f2.fr, f2⟩
      · rw [if_pos c1, bldM, Option.bind_some, mstA (x := zM) rfl, Option.bind_some] at start
        simp only [List.set_cons_zero, List.set_cons_succ] at start
        rw [mldA (x := zM) rfl, Option.bind_some] at start
        rw [if_neg c1]
        exact ⟨zM, 30, retM2 start rfl, Res.bad' (by decide)⟩
theorem V42 {x y : MV} {k K : Nat} (hx : IsM k x) (hy : IsM k y) (hk1 : 1 ≤ k) (hkK : 1 + 60 * (k + k + 1) ≤ K) (hK : K < 2 ^ 35) :
    ∃ z e, AP cfg 42 [x.av, y.av] = some (.tup [z.av, .int .i64 e]) ∧ Res z e (mulE x y) x.rows.toNat y.cols.toNat (mulQ x y x.cols.toNat y.cols.toNat) K := by
  have e20 := V21 hx.ok (by omega) (by have := hx.len; omega)
  have e20' := V21 hy.ok (by omega) (by have := hy.len; omega)
  have gx : ∀ e : Mem, (cM x :: e)[0]? = some (cM x) := fun _ => rfl
  have gy : ∀ e : Mem, (cM x :: cM y :: e)[1]? = some (cM y) := fun _ => rfl
  have start : AC cfg 42 [x.av, y.av] [] = AC cfg 42 [x.av, y.av] [] := rfl
  conv at start => rhs; rw [T42, box_mv, Option.bind_some, box_mv, Option.bind_some]
  simp only [new_m, new_r, List.length_nil, List.nil_append, List.length_cons, List.cons_append, Nat.zero_add, Nat.reduceAdd] at start
  rw [mldA (gx _), Option.bind_some, pcM, hx.fr, e20, Option.map_some, Option.bind_some, not_b, Option.bind_some] at start
  unfold mulE
  cases hbx : rightM x with
  | false =>
    rw [hbx, Bool.not_false, ifA_true, bldM, Option.bind_some, mstA (x := zM) rfl, Option.bind_some] at start
    simp only [List.set_cons_zero, List.set_cons_succ] at start
    rw [mldA (x := zM) rfl, Option.bind_some] at start
    rw [if_neg (fun h => by cases h.1)]
    exact ⟨zM, 1, retM2 start rfl, Res.bad' (by decide)⟩
  | true =>
    rw [hbx, Bool.not_true, ifA_false, mldA (gy _), Option.bind_some, pcM, hy.fr, e20', Option.map_some, Option.bind_some, not_b, Option.bind_some] at start
    cases hby : rightM y with
    | false =>
      rw [hby, Bool.not_false, ifA_true, bldM, Option.bind_some, mstA (x := zM) rfl, Option.bind_some] at start
      simp only [List.set_cons_zero, List.set_cons_succ] at start
      rw [mldA (x := zM) rfl, Option.bind_some] at start
      rw [if_neg (fun h => by cases h.2)]
      exact ⟨zM, 1, retM2 start rfl, Res.bad' (by decide)⟩
    | true =>
      rw [hby, Bool.not_true, ifA_false, fld1, Option.bind_some, mld1 (gx _), Option.bind_some, fld0, Option.bind_some, mld0 (gy _), Option.bind_some, binA_neq, Option.bind_some, ifA_dec] at start
      rw [if_pos ⟨rfl, rfl⟩]
      by_cases c1 : x.cols = y.rows
      · obtain ⟨r, c, hr, hc, r6, c6, hlx⟩ := right_len hbx
        obtain ⟨c', d, hc', hd, _, d6, hly⟩ := right_len hby
        obtain rfl : c = c' := by rw [c1, hc'] at hc; omega
        have hB : ∀ i j l, i < r → j < d → l ≤ c → Bd K (dotQ x y c d i j l) := fun i j l _ _ hl => (dot_bd hx.ok hy.ok hk1 l).mono (by
          have : l * (k + k + 1) ≤ 60 * (k + k + 1) := Nat.mul_le_mul_right _ (by omega)
          omega)
        obtain ⟨z, f1, f2⟩ := V81 hx hy hk1 (by omega) (by omega) hr hc hd r6 c6 d6 hlx hly hB
        rw [if_neg (fun h => h c1), mldA (gx _), Option.bind_some, mldA (gy _), Option.bind_some, pcall2 (fz_mv x) (fz_mv y), hx.fr, hy.fr, f1, Option.map_some, Option.bind_some, mstA (x := zM) rfl, Option.bind_some] at start
        simp only [List.set_cons_zero, List.set_cons_succ] at start
        rw [mldA (x := z) rfl, Option.bind_some] at start
        rw [if_pos c1, hr, hc, hd]
        exact ⟨z, 0, retM2 start f2.fr, f2⟩
      · rw [if_pos c1, bldM, Option.bind_some, mstA (x := zM) rfl, Option.bind_some] at start
        simp only [List.set_cons_zero, List.set_cons_succ] at start
        rw [mldA (x := zM) rfl, Option.bind_some] at start
        rw [if_neg c1]
        exact ⟨zM, 30, retM2 start rfl, Res.bad' (by decide)⟩
end Go.Ab

/- Powers of matrices: plain sums, and how great their fractions can be. -/
set_option linter.unusedVariables false
set_option linter.unusedSimpArgs false
set_option maxRecDepth 100000
namespace Go.Ab
open Go.Proofs.Try

/-! ### Matrices as functions -/
abbrev MF := Nat → Nat → Rat
def mulF (n : Nat) (A B : MF) : MF := fun i j => sumN (fun l => A i l * B l j) n
def idF : MF := fun i j => if i = j then 1 else 0
def powF (n : Nat) (A : MF) : Nat → MF
  | 0 => idF
  | e + 1 => mulF n (powF n A e) A
theorem mulF_assoc (n : Nat) (A B C : MF) (i j : Nat) : mulF n A (mulF n B C) i j = mulF n (mulF n A B) C i j := by
  unfold mulF
  have h1 : ∀ l, l < n → A i l * sumN (fun m => B l m * C m j) n = sumN (fun m => A i l * (B l m * C m j)) n := fun l _ => (sumN_mulL _ _ n).symm
  have h2 : ∀ m, m < n → sumN (fun l => A i l * B l m) n * C m j = sumN (fun l => A i l * B l m * C m j) n := fun m _ => (sumN_mulR _ _ n).symm
  rw [sumN_congr h1, sumN_congr h2, sumN_swap]
  refine sumN_congr fun m _ => sumN_congr fun l _ => ?_
  rw [Rat.mul_assoc]
theorem mulF_id (n : Nat) (A : MF) {i j : Nat} (hj : j < n) : mulF n A idF i j = A i j := by
  unfold mulF
  rw [sumN_one (p := j) (fun l _ hl => by unfold idF; rw [if_neg hl, Rat.mul_zero]), if_pos hj]
  unfold idF
  rw [if_pos rfl, Rat.mul_one]
theorem id_mulF (n : Nat) (A : MF) {i j : Nat} (hi : i < n) : mulF n idF A i j = A i j := by
  unfold mulF
  rw [sumN_one (p := i) (fun l _ hl => by unfold idF; rw [if_neg (fun e => hl e.symm), Rat.zero_mul]), if_pos hi]
  unfold idF
  rw [if_pos rfl, Rat.one_mul]
theorem mulF_congr {n : Nat} {A A' B B' : MF} (hA : ∀ i j, i < n → j < n → A i j = A' i j) (hB : ∀ i j, i < n → j < n → B i j = B' i j) {i j : Nat} (hi : i < n) (hj : j < n) : mulF n A B i j = mulF n A' B' i j := by
  unfold mulF
  exact sumN_congr fun l hl => by rw [hA i l hi hl, hB l j hl hj]
theorem pow_add (n : Nat) (A : MF) (a : Nat) : ∀ (b : Nat) {i j : Nat}, i < n → j < n → mulF n (powF n A a) (powF n A b) i j = powF n A (a + b) i j
  | 0, i, j, hi, hj => by
    rw [Nat.add_zero, powF, mulF_id n _ hj]
  | b + 1, i, j, hi, hj => by
    show mulF n (powF n A a) (mulF n (powF n A b) A) i j = mulF n (powF n A (a + b)) A i j
    rw [mulF_assoc]
    exact mulF_congr (fun i j hi hj => pow_add n A a b hi hj) (fun _ _ _ _ => rfl) hi hj
theorem pow_one (n : Nat) (A : MF) {i j : Nat} (hi : i < n) : powF n A 1 i j = A i j := id_mulF n A hi

/-! ### Fractions over one denominator -/
def Ud (D M : Nat) (q : Rat) : Prop := ∃ z : Int, z.natAbs ≤ M ∧ q = mkRat z D
theorem Ud.mono {D M M' : Nat} {q : Rat} (h : Ud D M q) (hM : M ≤ M') : Ud D M' q := by
  obtain ⟨z, h1, h2⟩ := h
  exact ⟨z, Nat.le_trans h1 hM, h2⟩
theorem Ud.zero (D M : Nat) : Ud D M 0 := ⟨0, Nat.zero_le _, (Rat.zero_mkRat D).symm⟩
theorem Ud.add {D M M' : Nat} {p q : Rat} (hD : D ≠ 0) (hp : Ud D M p) (hq : Ud D M' q) : Ud D (M + M') (p + q) := by
  obtain ⟨z, h1, rfl⟩ := hp
  obtain ⟨w, h3, rfl⟩ := hq
  refine ⟨z + w, by omega, ?_⟩
  rw [Rat.mkRat_add_mkRat _ _ hD hD, ← Int.add_mul, Rat.mkRat_mul_right hD]
theorem Ud.mul {D D' M M' : Nat} {p q : Rat} (hp : Ud D M p) (hq : Ud D' M' q) : Ud (D * D') (M * M') (p * q) := by
  obtain ⟨z, h1, rfl⟩ := hp
  obtain ⟨w, h3, rfl⟩ := hq
  refine ⟨z * w, by rw [Int.natAbs_mul]; exact Nat.mul_le_mul h1 h3, ?_⟩
  rw [Rat.mkRat_mul_mkRat]
theorem Ud.sum {D M : Nat} {f : Nat → Rat} (hD : D ≠ 0) : ∀ {n : Nat}, (∀ l, l < n → Ud D M (f l)) → Ud D (n * M) (sumN f n)
  | 0, _ => Ud.zero _ _
  | n + 1, h => by
    rw [sumN, Nat.succ_mul]
    exact (Ud.sum hD (fun l hl => h l (by omega))).add hD (h n (by omega))
theorem Ud.bd {D M k : Nat} {q : Rat} (h : Ud D M q) (hk : 1 ≤ k) (h1 : (digs D).length ≤ k) (h2 : (digs M).length ≤ k) : Bd k q := by
  obtain ⟨z, h3, rfl⟩ := h
  have e : mkRat z D = qOf (decide (z < 0)) z.natAbs D := by
    unfold qOf
    congr 1
    rw [sgn_nat]
    by_cases hz : z < 0
    · rw [decide_eq_true hz, if_pos rfl]; omega
    · rw [decide_eq_false hz, if_neg (by decide)]; omega
  rw [e]
  exact Bd_qOf (Nat.le_trans (digs_mono h3) h2) h1 hk
theorem pow_ud {n D M : Nat} {A : MF} (hD : D ≠ 0) (hA : ∀ i j, i < n → j < n → Ud D M (A i j)) : ∀ (e : Nat) {i j : Nat}, i < n → j < n → Ud (D ^ e) ((n * M) ^ e) (powF n A e i j)
  | 0, i, j, hi, hj => by
    rw [Nat.pow_zero, Nat.pow_zero]
    show Ud 1 1 (if i = j then 1 else 0)
    by_cases h : i = j
    · rw [if_pos h]; exact ⟨1, Nat.le_refl _, rfl⟩
    · rw [if_neg h]; exact Ud.zero _ _
  | e + 1, i, j, hi, hj => by
    have h := Ud.sum (f := fun l => powF n A e i l * A l j) (M := (n * M) ^ e * M) (Nat.mul_ne_zero (Nat.ne_of_gt (Nat.pow_pos (Nat.pos_of_ne_zero hD))) hD) (n := n) (fun l hl => (pow_ud hD hA e hi hl).mul (hA l j hl hj))
    rw [Nat.pow_succ, Nat.pow_succ, show (n * M) ^ e * (n * M) = n * ((n * M) ^ e * M) by rw [Nat.mul_comm n M, ← Nat.mul_assoc, Nat.mul_comm]]
    exact h
/-- All that a power needs: the sums on the way are short. -/
def PowB (K n : Nat) (A : MF) (N : Nat) : Prop := ∀ a b i j l, a + b ≤ N → i < n → j < n → l ≤ n → Bd K (sumN (fun l => powF n A a i l * powF n A b l j) l)
theorem pow_bd {n D M K N : Nat} {A : MF} (hD : D ≠ 0) (hn : 1 ≤ n) (hM : 1 ≤ M) (hA : ∀ i j, i < n → j < n → Ud D M (A i j)) (hk : 1 ≤ K) (h1 : (digs (D ^ N)).length ≤ K) (h2 : (digs (n * (n * M) ^ N)).length ≤ K) : PowB K n A N := by
  intro a b i j l hab hi hj hl
  have hp : 0 < D ^ a * D ^ b := Nat.mul_pos (Nat.pow_pos (Nat.pos_of_ne_zero hD)) (Nat.pow_pos (Nat.pos_of_ne_zero hD))
  have h := Ud.sum (f := fun l => powF n A a i l * powF n A b l j) (M := (n * M) ^ a * (n * M) ^ b) (Nat.ne_of_gt hp) (n := l) (fun l' hl' => (pow_ud hD hA a hi (by omega)).mul (pow_ud hD hA b (by omega) hj))
  refine h.bd hk ?_ ?_
  · rw [← Nat.pow_add]
    exact Nat.le_trans (digs_mono (Nat.pow_le_pow_right (Nat.pos_of_ne_zero hD) hab)) h1
  · rw [← Nat.pow_add]
    exact Nat.le_trans (digs_mono (Nat.mul_le_mul hl (Nat.pow_le_pow_right (Nat.mul_pos hn hM) hab))) h2
theorem PowB.mono {K n N N' : Nat} {A : MF} (h : PowB K n A N) (hN : N' ≤ N) : PowB K n A N' := fun a b i j l hab => h a b i j l (by omega)
theorem PowB.one {K n N : Nat} {A : MF} (h : PowB K n A N) {e i j : Nat} (he : e ≤ N) (hi : i < n) (hj : j < n) : Bd K (powF n A e i j) := by
  have := h e 0 i j n (by omega) hi hj (Nat.le_refl _)
  have e2 : sumN (fun l => powF n A e i l * powF n A 0 l j) n = powF n A e i j := mulF_id n (powF n A e) hj
  rw [e2] at this
  exact this
end Go.Ab

/- Powers of matrices, in values. -/
set_option linter.unusedVariables false
set_option linter.unusedSimpArgs false
set_option maxRecDepth 100000
namespace Go.Ab
open Go.Proofs.Try

theorem i_and1 {n : Nat} (h : n ≤ 200) : binA .other .and (.int .i64 n) (.int .i64 1) = some (.int .i64 (n % 2 : Nat)) := by
  have e : binA .other .and (.int .i64 n) (.int .i64 1) = some (.int .i64 (IntKind.wrap .i64 ((BitVec.ofInt 64 n &&& BitVec.ofInt 64 1).toNat : Nat))) := rfl
  have e2 : (BitVec.ofInt 64 (n : Int) &&& BitVec.ofInt 64 1).toNat = n % 2 := by
    rw [BitVec.toNat_and, BitVec.toNat_ofInt, BitVec.toNat_ofInt]
    have h1 : (((n : Nat) : Int) % ((2 ^ 64 : Nat) : Int)).toNat = n := by omega
    have h2 : ((1 : Int) % ((2 ^ 64 : Nat) : Int)).toNat = 1 := by omega
    rw [h1, h2, Nat.and_one_is_mod]
  rw [e, e2, wrap_i64 (by omega) (by omega)]
theorem i_shr1 {n : Nat} : binA .other .shr (.int .i64 n) (.int .u64 1) = some (.int .i64 (n / 2 : Nat)) := by
  rw [binA_shr _ _ _ _ _ (by omega)]
  have e : ((n : Nat) : Int).fdiv (2 ^ (min (Int.toNat 1) IntKind.i64.bits)) = ((n / 2 : Nat) : Int) := by
    show ((n : Nat) : Int).fdiv 2 = _
    rw [Int.fdiv_eq_ediv_of_nonneg _ (by decide)]
    omega
  rw [e]
theorem i_gtr {a b : Nat} : binA .other .gtr (.int .i64 a) (.int .i64 b) = some (.bool (decide (a > b))) := by
  rw [binA_gtr]; congr 2; exact decide_eq_decide.2 (by omega)
theorem i_gtr0 {a : Nat} : binA .other .gtr (.int .i64 a) (.int .i64 0) = some (.bool (decide (a > 0))) := i_gtr (b := 0)
theorem i_gtr1 {a : Nat} : binA .other .gtr (.int .i64 a) (.int .i64 1) = some (.bool (decide (a > 1))) := i_gtr (b := 1)

def ent (x : MV) (n : Nat) : MF := fun i j => qAt x (i * n + j)
/-- The matrix is a power. -/
structure PM (K n : Nat) (A : MF) (e : Nat) (z : MV) : Prop where
  fr : z.fr = z
  ok : LOk K z.lv
  rows : z.rows = n
  cols : z.cols = n
  len : z.lv.es.length = n * n
  q : ∀ i j, i < n → j < n → ent z n i j = powF n A e i j
theorem PM.isM {K n e : Nat} {A : MF} {z : MV} (h : PM K n A e z) (hn : n ≤ 60) : IsM K z := ⟨h.ok, h.fr, by rw [h.len]; have := Nat.mul_le_mul hn hn; omega⟩
theorem dot_ent (x y : MV) (n i j l : Nat) : dotQ x y n n i j l = sumN (fun l => ent x n i l * ent y n l j) l := rfl
theorem PM.dot_bd {K n a b N : Nat} {A : MF} {x y : MV} (hx : PM K n A a x) (hy : PM K n A b y) (hP : PowB K n A N) (hab : a + b ≤ N) : ∀ i j l, i < n → j < n → l ≤ n → Bd K (dotQ x y n n i j l) := by
  intro i j l hi hj hl
  rw [dot_ent, sumN_congr (fun l' hl' => by rw [hx.q i l' hi (by omega), hy.q l' j (by omega) hj])]
  exact hP a b i j l hab hi hj hl
theorem PM.res {K n a b : Nat} {A : MF} {x y z : MV} (hx : PM K n A a x) (hy : PM K n A b y) (h : Res z 0 0 n n (mulQ x y n n) K) : PM K n A (a + b) z where
  fr := h.fr
  ok := h.ok
  rows := h.rows rfl
  cols := h.cols rfl
  len := h.len rfl
  q i j hi hj := by
    obtain ⟨e1, e2⟩ := row_col (i := i) hj
    show qAt z (i * n + j) = _
    rw [h.q rfl _ (cell_lt60 hi hj), mulQ, e1, e2, dot_ent, sumN_congr (fun l' hl' => by rw [hx.q i l' hi hl', hy.q l' j hl' hj])]
    exact pow_add n A a b hi hj
theorem PM.mul73 {K n a b N : Nat} {A : MF} {x y : MV} (hx : PM K n A a x) (hy : PM K n A b y) (hP : PowB K n A N) (hab : a + b ≤ N) (hn : n ≤ 60) (hK1 : 1 ≤ K) (hK : K < 2 ^ 34) : ∃ z, AP cfg 73 [x.av, y.av] = some z.av ∧ PM K n A (a + b) z := by
  obtain ⟨z, z1, z2⟩ := V73 (K := K) (hx.isM hn) (hy.isM hn) hK1 hK1 (by omega) hx.rows hx.cols hy.cols hn hn hn hx.len hy.len (hx.dot_bd hy hP hab)
  exact ⟨z, z1, hx.res hy z2⟩
theorem PM.mul81 {K n a b N : Nat} {A : MF} {x y : MV} (hx : PM K n A a x) (hy : PM K n A b y) (hP : PowB K n A N) (hab : a + b ≤ N) (hn : n ≤ 60) (hK1 : 1 ≤ K) (hK : K < 2 ^ 34) : ∃ z, AP cfg 81 [x.av, y.av] = some z.av ∧ PM K n A (a + b) z := by
  obtain ⟨z, z1, z2⟩ := V81 (K := K) (hx.isM hn) (hy.isM hn) hK1 hK1 (by omega) hx.rows hx.cols hy.cols hn hn hn hx.len hy.len (hx.dot_bd hy hP hab)
  exact ⟨z, z1, hx.res hy z2⟩
theorem W30 {x0 : MV} {K n N : Nat} {A : MF} (hP : PowB K n A N) (hN : N ≤ 200) (hn : n ≤ 60) (hK1 : 1 ≤ K) (hK : K < 2 ^ 34) (Kt : Ex → St → Option (AV × Mem)) : ∀ (f r a b : Nat) (out sq : MV), r ≤ f → PM K n A a out → PM K n A b sq → a + b * r ≤ N → r ≤ N →
    ∃ out' sq', PM K n A (a + b * r) out' ∧ L30_10 (.int .i64 r) (.ptr 1 0) (.ptr 2 0) (.ptr 3 0) [cM x0, cM zM, cM out, cM sq] Kt = Kt (.exit 1) (O30_10 (.ptr 1 0) (.ptr 2 0) [cM x0, cM zM, cM out', cM sq']) := by
  intro f
  induction f with
  | zero =>
    intro r a b out sq hr ho hs hab hrN
    obtain rfl : r = 0 := by omega
    refine ⟨out, sq, ho, ?_⟩
    rw [L30_10_eq, i_gtr0, Option.bind_some, ifA_dec, if_neg (by omega)]
  | succ f ih =>
    intro r a b out sq hr ho hs hab hrN
    by_cases h0 : r > 0
    · have hmod : r % 2 < 2 := Nat.mod_lt _ (by omega)
      have hdm := Nat.div_add_mod r 2
      by_cases ho1 : r % 2 = 1
      · have hb : b ≤ b * r := Nat.le_mul_of_pos_right _ h0
        obtain ⟨o, o1, o2⟩ := ho.mul73 hs hP (by omega) hn hK1 hK
        by_cases hr1 : r > 1
        · have hb2 : b * 2 ≤ b * r := Nat.mul_le_mul_left _ hr1
          obtain ⟨s, s1, s2⟩ := hs.mul73 hs hP (by omega) hn hK1 hK
          have he : a + b + (b + b) * (r / 2) = a + b * r := by
            have : b * r = b * (2 * (r / 2) + 1) := by rw [← ho1, hdm]
            rw [this, Nat.mul_add, Nat.mul_one, Nat.add_mul, ← Nat.mul_assoc, Nat.mul_comm b 2, Nat.mul_assoc, Nat.two_mul]
            omega
          obtain ⟨out', sq', w1, w2⟩ := ih (r / 2) (a + b) (b + b) o s (by omega) o2 s2 (by omega) (by omega)
          rw [he] at w1
          refine ⟨out', sq', w1, ?_⟩
          rw [L30_10_eq, i_gtr0, Option.bind_some, ifA_dec, if_pos h0, i_and1 (by omega), Option.bind_some, n_eql1, Option.bind_some, ifA_dec, if_pos ho1, mldA (x := out) rfl, Option.bind_some, mldA (x := sq) rfl, Option.bind_some, pcall2 (fz_mv out) (fz_mv sq), ho.fr, hs.fr, o1, Option.map_some, Option.bind_some, mstA (x := out) rfl, Option.bind_some]
          simp only [List.set_cons_zero, List.set_cons_succ]
          rw [i_gtr1, Option.bind_some, ifA_dec, if_pos hr1, mldA (x := sq) rfl, Option.bind_some, Option.bind_some, pcall2 (fz_mv sq) (fz_mv sq), hs.fr, s1, Option.map_some, Option.bind_some, mstA (x := sq) rfl, Option.bind_some]
          simp only [List.set_cons_zero, List.set_cons_succ]
          rw [i_shr1, Option.bind_some]
          exact w2
        · obtain rfl : r = 1 := by omega
          obtain ⟨out', sq', w1, w2⟩ := ih 0 (a + b) b o sq (by omega) o2 hs (by omega) (by omega)
          refine ⟨out', sq', by rw [Nat.mul_one]; exact w1, ?_⟩
          rw [L30_10_eq, i_gtr0, Option.bind_some, ifA_dec, if_pos h0, i_and1 (by omega), Option.bind_some, n_eql1, Option.bind_some, ifA_dec, if_pos ho1, mldA (x := out) rfl, Option.bind_some, mldA (x := sq) rfl, Option.bind_some, pcall2 (fz_mv out) (fz_mv sq), ho.fr, hs.fr, o1, Option.map_some, Option.bind_some, mstA (x := out) rfl, Option.bind_some]
          simp only [List.set_cons_zero, List.set_cons_succ]
          rw [i_gtr1, Option.bind_some, ifA_dec, if_neg hr1, i_shr1, Option.bind_some]
          exact w2
      · have hr1 : r > 1 := by omega
        have hb2 : b * 2 ≤ b * r := Nat.mul_le_mul_left _ hr1
        obtain ⟨s, s1, s2⟩ := hs.mul73 hs hP (by omega) hn hK1 hK
        have he : a + (b + b) * (r / 2) = a + b * r := by
          have : b * r = b * (2 * (r / 2)) := by rw [show 2 * (r / 2) = r by omega]
          rw [this, Nat.add_mul, ← Nat.mul_assoc, Nat.mul_comm b 2, Nat.mul_assoc, Nat.two_mul]
        obtain ⟨out', sq', w1, w2⟩ := ih (r / 2) a (b + b) out s (by omega) ho s2 (by omega) (by omega)
        rw [he] at w1
        refine ⟨out', sq', w1, ?_⟩
        rw [L30_10_eq, i_gtr0, Option.bind_some, ifA_dec, if_pos h0, i_and1 (by omega), Option.bind_some, n_eql1, Option.bind_some, ifA_dec, if_neg ho1, i_gtr1, Option.bind_some, ifA_dec, if_pos hr1, mldA (x := sq) rfl, Option.bind_some, Option.bind_some, pcall2 (fz_mv sq) (fz_mv sq), hs.fr, s1, Option.map_some, Option.bind_some, mstA (x := sq) rfl, Option.bind_some]
        simp only [List.set_cons_zero, List.set_cons_succ]
        rw [i_shr1, Option.bind_some]
        exact w2
    · obtain rfl : r = 0 := by omega
      refine ⟨out, sq, ho, ?_⟩
      rw [L30_10_eq, i_gtr0, Option.bind_some, ifA_dec, if_neg (by omega)]
theorem W44 {x : MV} {K n N : Nat} {A : MF} (hx : PM K n A 1 x) (hP : PowB K n A N) (hN : N ≤ 200) (hn : n ≤ 60) (hK1 : 1 ≤ K) (hK : K < 2 ^ 34) (Kt : Ex → St → Option (AV × Mem)) : ∀ (f i : Nat) (out : MV), i + f = N → PM K n A i out →
    ∃ out', PM K n A N out' ∧ L44_11 (.int .i64 N) (.ptr 0 0) (.ptr 1 0) (.ptr 2 0) (.int .i64 i) [cM x, cM zM, cM out] Kt = Kt (.exit 1) (O44_11 (.ptr 1 0) (.ptr 2 0) [cM x, cM zM, cM out']) := by
  intro f
  induction f with
  | zero =>
    intro i out hi ho
    obtain rfl : i = N := by omega
    refine ⟨out, ho, ?_⟩
    rw [L44_11_eq, n_lss, Option.bind_some, ifA_dec, if_neg (by omega)]
  | succ f ih =>
    intro i out hi ho
    obtain ⟨o, o1, o2⟩ := ho.mul81 hx hP (by omega) hn hK1 hK
    obtain ⟨out', w1, w2⟩ := ih (i + 1) o (by omega) o2
    refine ⟨out', w1, ?_⟩
    rw [L44_11_eq, n_lss, Option.bind_some, ifA_dec, if_pos (by omega), mldA (x := out) rfl, Option.bind_some, mldA (x := x) rfl, Option.bind_some, pcall2 (fz_mv out) (fz_mv x), ho.fr, hx.fr, o1, Option.map_some, Option.bind_some, mstA (x := out) rfl, Option.bind_some]
    simp only [List.set_cons_zero, List.set_cons_succ]
    rw [i_add1 (by omega), Option.bind_some]
    exact w2
end Go.Ab

/- Power, in values: both sides. -/
set_option linter.unusedVariables false
set_option linter.unusedSimpArgs false
set_option maxRecDepth 100000
namespace Go.Ab
open Go.Proofs.Try

def powE (x : MV) (n : Int) : Int := if rightM x = true then if x.rows = x.cols then if n < 0 then 1 else if n > 200 then 2 else 0 else 30 else 1
def powQ (x : MV) (s N p : Nat) : Rat := powF s (ent x s) N (p / s) (p % s)
theorem PM.toRes {K n N : Nat} {x z : MV} (h : PM K n (ent x n) N z) : Res z 0 0 n n (powQ x n N) K :=
  ⟨h.fr, h.ok, rfl, fun h => absurd rfl h, fun _ => h.rows, fun _ => h.cols, fun _ => h.len, fun _ p hp => by
    have h0 : 0 < n := by
      rcases Nat.eq_zero_or_pos n with h0 | h0
      · rw [h0, Nat.mul_zero] at hp; omega
      · exact h0
    have h1 : p / n < n := Nat.div_lt_of_lt_mul hp
    have h2 : p % n < n := Nat.mod_lt _ h0
    have := h.q (p / n) (p % n) h1 h2
    unfold ent at this
    rw [div_mod_mul] at this
    exact this⟩
/-- The matrix is its first power. -/
theorem PM.self {K n : Nat} {x : MV} (hx : IsM K x) (hr : x.rows = n) (hc : x.cols = n) (hl : x.lv.es.length = n * n) : PM K n (ent x n) 1 x :=
  ⟨hx.fr, hx.ok, hr, hc, hl, fun i j hi hj => (pow_one n _ hi).symm⟩
theorem PM.copy {K n : Nat} {x y : MV} (hx : IsM K x) (hr : x.rows = n) (hc : x.cols = n) (hl : x.lv.es.length = n * n) (h1 : y.rows = x.rows) (h2 : y.cols = x.cols) (h3 : y.lv.es = x.lv.es.map copyR) (h4 : LOk K y.lv) (h5 : y.fr = y) : PM K n (ent x n) 1 y :=
  ⟨h5, h4, h1.trans hr, h2.trans hc, by rw [h3, List.length_map, hl], fun i j hi hj => by
    rw [pow_one n _ hi]
    unfold ent qAt
    rw [h3, map_copyR]⟩
theorem ent_unit {n : Nat} {y : MV} (h : y.lv.es = cellsF unitR n n) {i j : Nat} (hi : i < n) (hj : j < n) : ent y n i j = idF i j := by
  obtain ⟨e1, e2⟩ := row_col (i := i) hj
  unfold ent qAt
  rw [List.getD_eq_getElem?_getD, List.getElem?_map, h, cellsF_get _ _ _ _ (cell_lt60 hi hj), e1, e2]
  show (unitR i j).q = _
  unfold unitR idF
  by_cases c : i = j
  · rw [if_pos c, if_pos c, can_one.q]
  · rw [if_neg c, if_neg c, can_zero.q]
theorem ent_oneTo {n : Nat} {y : MV} (h : y.lv.es = oneTo n n) {i j : Nat} (hi : i < n) (hj : j < n) : ent y n i j = idF i j := by
  obtain ⟨e1, e2⟩ := row_col (i := i) hj
  unfold ent qAt
  rw [List.getD_eq_getElem?_getD, List.getElem?_map, h, oneTo_get n n _ (Nat.le_refl _) (cell_lt60 hi hj), e1, e2]
  unfold idF
  by_cases c : i = j
  · rw [if_pos c, if_pos ⟨c, hi⟩]; exact canF_one.q
  · rw [if_neg c, if_neg (fun h => c h.1)]; exact canF_zero.q
theorem V30 {x : MV} {k K : Nat} {n : Int} (hx : IsM k x) (hk1 : 1 ≤ k) (hkK : k ≤ K) (hK : K < 2 ^ 34) (hP : powE x n = 0 → PowB K x.rows.toNat (ent x x.rows.toNat) n.toNat) :
    ∃ z e, AP cfg 30 [x.av, .int .i64 n] = some (.tup [z.av, .int .i64 e]) ∧ Res z e (powE x n) x.rows.toNat x.rows.toNat (powQ x x.rows.toNat n.toNat) K := by
  have e20 := V20 hx.ok (by omega) (by have := hx.len; omega)
  have gx : ∀ e : Mem, (cM x :: e)[0]? = some (cM x) := fun _ => rfl
  have start : AC cfg 30 [x.av, .int .i64 n] [] = AC cfg 30 [x.av, .int .i64 n] [] := rfl
  conv at start => rhs; rw [T30, box_mv, Option.bind_some]
  simp only [new_m, new_r, List.length_nil, List.nil_append, List.length_cons, List.cons_append, Nat.zero_add, Nat.reduceAdd] at start
  rw [mldA (gx _), Option.bind_some, pcM, hx.fr, e20, Option.map_some, Option.bind_some, not_b, Option.bind_some] at start
  revert hP
  unfold powE
  intro hP
  cases hbx : rightM x with
  | false =>
    rw [hbx, Bool.not_false, ifA_true, bldM, Option.bind_some, mstA (x := zM) rfl, Option.bind_some] at start
    simp only [List.set_cons_zero, List.set_cons_succ] at start
    rw [mldA (x := zM) rfl, Option.bind_some] at start
    rw [if_neg (by decide)]
    exact ⟨zM, 1, retM2 start rfl, Res.bad' (by decide)⟩
  | true =>
    rw [hbx, if_pos rfl] at hP
    rw [hbx, Bool.not_true, ifA_false, fld0, Option.bind_some, mld0 (gx _), Option.bind_some, fld1, Option.bind_some, mld1 (gx _), Option.bind_some, binA_neq, Option.bind_some, ifA_dec] at start
    rw [if_pos rfl]
    by_cases c1 : x.rows = x.cols
    · rw [if_neg (fun h => h c1), binA_lss, Option.bind_some, ifA_dec] at start
      rw [if_pos c1] at hP
      rw [if_pos c1]
      by_cases c2 : n < 0
      · rw [if_pos c2, bldM, Option.bind_some, mstA (x := zM) rfl, Option.bind_some] at start
        simp only [List.set_cons_zero, List.set_cons_succ] at start
        rw [mldA (x := zM) rfl, Option.bind_some] at start
        rw [if_pos c2]
        exact ⟨zM, 1, retM2 start rfl, Res.bad' (by decide)⟩
      · rw [if_neg c2, binA_gtr, Option.bind_some, ifA_dec] at start
        rw [if_neg c2] at hP
        rw [if_neg c2]
        by_cases c3 : n > 200
        · rw [if_pos c3, bldM, Option.bind_some, mstA (x := zM) rfl, Option.bind_some] at start
          simp only [List.set_cons_zero, List.set_cons_succ] at start
          rw [mldA (x := zM) rfl, Option.bind_some] at start
          rw [if_pos c3]
          exact ⟨zM, 2, retM2 start rfl, Res.bad' (by decide)⟩
        · rw [if_neg c3] at start hP
          rw [if_neg c3]
          have hP := hP rfl
          obtain ⟨r, c, hr, hc, r6, c6, hlx⟩ := right_len hbx
          obtain rfl : r = c := by rw [c1, hc] at hr; omega
          obtain ⟨N, rfl⟩ := Int.eq_ofNat_of_zero_le (show 0 ≤ n by omega)
          have hrn : x.rows.toNat = r := by rw [hr]; rfl
          have hNn : ((N : Nat) : Int).toNat = N := rfl
          rw [hrn, hNn] at hP
          rw [hrn, hNn]
          obtain ⟨o, o1, o2, o3, o4, o5, o6⟩ := V58 (fill62 r r) r6 r6
          obtain ⟨s, s1, s2, s3, s4, s5, s6⟩ := V56 hx.ok (by have := hx.len; omega)
          have po : PM K r (ent x r) 0 o := ⟨o6, o5.mono (by omega), o2, o3, by rw [o4, cellsF_length], fun i j hi hj => ent_unit o4 hi hj⟩
          have ps : PM K r (ent x r) 1 s := PM.copy ⟨hx.ok.mono hkK, hx.fr, hx.len⟩ hr hc hlx s2 s3 s4 (s5.mono hkK) s6
          obtain ⟨out', sq', w1, w2⟩ := W30 (x0 := x) hP (by omega) r6 (by omega) hK (K30_10 (finK cfg.P f30.results.toList)) N N 0 1 o s (Nat.le_refl _) po ps (by omega) (Nat.le_refl _)
          rw [Nat.one_mul, Nat.zero_add] at w1
          dsimp only at start
          rw [Option.bind_some, show reserve [cM x, cM zM] 2 = [cM x, cM zM, some .resv, some .resv] from rfl, mld0 (gx _), Option.bind_some, Option.bind_some, mld0 (gx _), Option.bind_some, hr, pcall3 (fz_int _ _) (fz_int _ _) (fz_fn0 62), o1, Option.map_some, Option.bind_some, mldA (gx _), Option.bind_some, pcM, hx.fr, s1, Option.map_some, Option.bind_some] at start
          have n1 : ∀ (a b e e' : Option Ent) (en : Ent), newAt (some 2) [a, b, e, e'] en = (2, [a, b, some en, e']) := fun _ _ _ _ _ => rfl
          have n2 : ∀ (a b e e' : Option Ent) (en : Ent), newAt (some 3) [a, b, e, e'] en = (3, [a, b, e, some en]) := fun _ _ _ _ _ => rfl
          have ze : some (Ent.obj true [.int .i64 0, .int .i64 0, .lst none true .full []]) = cM zM := rfl
          simp only [List.length_nil, List.length_cons, Nat.zero_add, Nat.reduceAdd, n1, n2, ze] at start
          rw [mstA (x := zM) rfl, Option.bind_some] at start
          simp only [List.set_cons_zero, List.set_cons_succ] at start
          rw [mstA (x := zM) rfl, Option.bind_some] at start
          simp only [List.set_cons_zero, List.set_cons_succ] at start
          have start := start.trans w2
          rw [K30_10_x1, mldA (x := out') rfl, Option.bind_some, mstA (x := zM) rfl, Option.bind_some] at start
          simp only [List.set_cons_zero, List.set_cons_succ] at start
          rw [mldA (x := out') rfl, Option.bind_some] at start
          exact ⟨out', 0, retM2 start w1.fr, w1.toRes⟩
    · rw [if_pos c1, bldM, Option.bind_some, mstA (x := zM) rfl, Option.bind_some] at start
      simp only [List.set_cons_zero, List.set_cons_succ] at start
      rw [mldA (x := zM) rfl, Option.bind_some] at start
      rw [if_neg c1]
      exact ⟨zM, 30, retM2 start rfl, Res.bad' (by decide)⟩
theorem V44 {x : MV} {k K : Nat} {n : Int} (hx : IsM k x) (hk1 : 1 ≤ k) (hkK : k ≤ K) (hK : K < 2 ^ 34) (hP : powE x n = 0 → PowB K x.rows.toNat (ent x x.rows.toNat) n.toNat) :
    ∃ z e, AP cfg 44 [x.av, .int .i64 n] = some (.tup [z.av, .int .i64 e]) ∧ Res z e (powE x n) x.rows.toNat x.rows.toNat (powQ x x.rows.toNat n.toNat) K := by
  have e20 := V21 hx.ok (by omega) (by have := hx.len; omega)
  have gx : ∀ e : Mem, (cM x :: e)[0]? = some (cM x) := fun _ => rfl
  have start : AC cfg 44 [x.av, .int .i64 n] [] = AC cfg 44 [x.av, .int .i64 n] [] := rfl
  conv at start => rhs; rw [T44, box_mv, Option.bind_some]
  simp only [new_m, new_r, List.length_nil, List.nil_append, List.length_cons, List.cons_append, Nat.zero_add, Nat.reduceAdd] at start
  rw [mldA (gx _), Option.bind_some, pcM, hx.fr, e20, Option.map_some, Option.bind_some, not_b, Option.bind_some] at start
  revert hP
  unfold powE
  intro hP
  cases hbx : rightM x with
  | false =>
    rw [hbx, Bool.not_false, ifA_true, bldM, Option.bind_some, mstA (x := zM) rfl, Option.bind_some] at start
    simp only [List.set_cons_zero, List.set_cons_succ] at start
    rw [mldA (x := zM) rfl, Option.bind_some] at start
    rw [if_neg (by decide)]
    exact ⟨zM, 1, retM2 start rfl, Res.bad' (by decide)⟩
  | true =>
    rw [hbx, if_pos rfl] at hP
    rw [hbx, Bool.not_true, ifA_false, fld0, Option.bind_some, mld0 (gx _), Option.bind_some, fld1, Option.bind_some, mld1 (gx _), Option.bind_some, binA_neq, Option.bind_some, ifA_dec] at start
    rw [if_pos rfl]
    by_cases c1 : x.rows = x.cols
    · rw [if_neg (fun h => h c1), binA_lss, Option.bind_some, ifA_dec] at start
      rw [if_pos c1] at hP
      rw [if_pos c1]
      by_cases c2 : n < 0
      · rw [if_pos c2, bldM, Option.bind_some, mstA (x := zM) rfl, Option.bind_some] at start
        simp only [List.set_cons_zero, List.set_cons_succ] at start
        rw [mldA (x := zM) rfl, Option.bind_some] at start
        rw [if_pos c2]
        exact ⟨zM, 1, retM2 start rfl, Res.bad' (by decide)⟩
      · rw [if_neg c2, binA_gtr, Option.bind_some, ifA_dec] at start
        rw [if_neg c2] at hP
        rw [if_neg c2]
        by_cases c3 : n > 200
        · rw [if_pos c3, bldM, Option.bind_some, mstA (x := zM) rfl, Option.bind_some] at start
          simp only [List.set_cons_zero, List.set_cons_succ] at start
          rw [mldA (x := zM) rfl, Option.bind_some] at start
          rw [if_pos c3]
          exact ⟨zM, 2, retM2 start rfl, Res.bad' (by decide)⟩
        · rw [if_neg c3] at start hP
          rw [if_neg c3]
          have hP := hP rfl
          obtain ⟨r, c, hr, hc, r6, c6, hlx⟩ := right_len hbx
          obtain rfl : r = c := by rw [c1, hc] at hr; omega
          obtain ⟨N, rfl⟩ := Int.eq_ofNat_of_zero_le (show 0 ≤ n by omega)
          have hrn : x.rows.toNat = r := by rw [hr]; rfl
          have hNn : ((N : Nat) : Int).toNat = N := rfl
          rw [hrn, hNn] at hP
          rw [hrn, hNn]
          obtain ⟨o, o1, o2, o3, o4, o5, o6⟩ := V63 (n := r) r6
          have po : PM K r (ent x r) 0 o := ⟨o6, o5.mono (by omega), o2, o3, by rw [o4, oneTo_length], fun i j hi hj => ent_oneTo o4 hi hj⟩
          have px : PM K r (ent x r) 1 x := PM.self ⟨hx.ok.mono hkK, hx.fr, hx.len⟩ hr hc hlx
          obtain ⟨out', w1, w2⟩ := W44 px hP (by omega) r6 (by omega) hK (K44_11 (finK cfg.P f44.results.toList)) N 0 o (by omega) po
          dsimp only at start
          rw [Option.bind_some, mld0 (gx _), Option.bind_some, hr, pcI, o1, Option.map_some, Option.bind_some] at start
          simp only [new_m, new_r, List.length_nil, List.nil_append, List.length_cons, List.cons_append, Nat.zero_add, Nat.reduceAdd] at start
          rw [mstA (x := zM) rfl, Option.bind_some] at start
          simp only [List.set_cons_zero, List.set_cons_succ] at start
          have start := start.trans w2
          rw [K44_11_x1, mldA (x := out') rfl, Option.bind_some, mstA (x := zM) rfl, Option.bind_some] at start
          simp only [List.set_cons_zero, List.set_cons_succ] at start
          rw [mldA (x := out') rfl, Option.bind_some] at start
          exact ⟨out', 0, retM2 start w1.fr, w1.toRes⟩
    · rw [if_pos c1, bldM, Option.bind_some, mstA (x := zM) rfl, Option.bind_some] at start
      simp only [List.set_cons_zero, List.set_cons_succ] at start
      rw [mldA (x := zM) rfl, Option.bind_some] at start
      rw [if_neg c1]
      exact ⟨zM, 30, retM2 start rfl, Res.bad' (by decide)⟩
end Go.Ab

/- How long the fractions of a power can be. -/
set_option linter.unusedVariables false
set_option linter.unusedSimpArgs false
set_option maxRecDepth 100000
namespace Go.Ab
open Go.Proofs.Try

theorem lt_of_digs {n k : Nat} (h : (digs n).length ≤ k) : n < 4294967296 ^ k := by
  have h1 := val_lt (dg_digs n)
  rw [val_digs] at h1
  exact Nat.lt_of_lt_of_le h1 (Nat.pow_le_pow_right (by omega) h)
theorem Ud.scale {D M d : Nat} {q : Rat} (h : Ud D M q) (hd : d ≠ 0) : Ud (D * d) (M * d) q := by
  obtain ⟨z, h1, rfl⟩ := h
  refine ⟨z * d, ?_, ?_⟩
  · rw [Int.natAbs_mul, Int.natAbs_natCast]
    exact Nat.mul_le_mul_right _ h1
  · rw [Rat.mkRat_mul_right hd]
theorem comm_den {k : Nat} (f : Nat → Rat) : ∀ L : Nat, (∀ p, p < L → Bd k (f p)) → ∃ D, D ≠ 0 ∧ D ≤ 4294967296 ^ (k * L) ∧ ∀ p, p < L → Ud D (4294967296 ^ (k * L)) (f p)
  | 0, _ => ⟨1, by omega, by rw [Nat.mul_zero, Nat.pow_zero]; exact Nat.le_refl _, fun p hp => by omega⟩
  | L + 1, h => by
    obtain ⟨D, d0, d1, d2⟩ := comm_den f L (fun p hp => h p (by omega))
    obtain ⟨b1, b2⟩ := h L (by omega)
    have n1 := Nat.le_of_lt (lt_of_digs b1)
    have n2 := Nat.le_of_lt (lt_of_digs b2)
    have e : 4294967296 ^ (k * (L + 1)) = 4294967296 ^ (k * L) * 4294967296 ^ k := by rw [Nat.mul_succ, Nat.pow_add]
    have hd : (f L).den ≠ 0 := (f L).den_nz
    refine ⟨D * (f L).den, Nat.mul_ne_zero d0 hd, by rw [e]; exact Nat.mul_le_mul d1 n2, fun p hp => ?_⟩
    rw [e]
    by_cases hpL : p < L
    · exact ((d2 p hpL).scale hd).mono (Nat.mul_le_mul_left _ n2)
    · obtain rfl : p = L := by omega
      have hs : Ud (f p).den (f p).num.natAbs (f p) := ⟨(f p).num, Nat.le_refl _, (Rat.mkRat_self (f p)).symm⟩
      have := hs.scale d0
      rw [Nat.mul_comm (f p).den D] at this
      refine this.mono ?_
      rw [Nat.mul_comm]
      exact Nat.mul_le_mul d1 n1
theorem powB_gen {x : MV} {k n N : Nat} (hx : LOk k x.lv) (hk : 1 ≤ k) (hn : n ≤ 60) (hN : N ≤ 200) (hk3 : k ≤ 1000) : PowB (2 ^ 30) n (ent x n) N := by
  by_cases h0 : n = 0
  · intro a b i j l _ hi
    omega
  have hL : n * n ≤ 3600 := Nat.mul_le_mul hn hn
  obtain ⟨D, d0, d1, d2⟩ := comm_den (k := k) (fun p => qAt x p) (n * n) (fun p _ => qAt_bd hx hk)
  have hkL : k * (n * n) ≤ 3600000 := Nat.le_trans (Nat.mul_le_mul hk3 hL) (by omega)
  generalize k * (n * n) = E at d1 d2 hkL
  have hEN : E * N ≤ 720000000 := Nat.le_trans (Nat.mul_le_mul hkL hN) (by omega)
  refine pow_bd (D := D) (M := 4294967296 ^ E) d0 (by omega) (Nat.pow_pos (by omega)) (fun i j hi hj => d2 _ (cell_lt60 hi hj)) (by omega) ?_ ?_
  · have h1 : D ^ N ≤ 4294967296 ^ (E * N) := by
      rw [Nat.pow_mul]
      exact Nat.pow_le_pow_left d1 N
    have h2 : D ^ N < 4294967296 ^ (E * N + 1) := Nat.lt_of_le_of_lt h1 (Nat.pow_lt_pow_right (by omega) (by omega))
    exact Nat.le_trans (digs_length_le h2) (by omega)
  · have hn32 : n ≤ 4294967296 := by omega
    have h1 : n * (n * 4294967296 ^ E) ^ N ≤ 4294967296 * (4294967296 ^ (1 + E)) ^ N := by
      refine Nat.mul_le_mul hn32 (Nat.pow_le_pow_left ?_ N)
      rw [Nat.pow_add, Nat.pow_one]
      exact Nat.mul_le_mul_right _ hn32
    have e : 4294967296 * (4294967296 ^ (1 + E)) ^ N = 4294967296 ^ (1 + (1 + E) * N) := by
      rw [← Nat.pow_mul, Nat.pow_add 4294967296 1, Nat.pow_one]
    have hEN2 : (1 + E) * N ≤ 720000200 := by rw [Nat.add_mul]; omega
    rw [e] at h1
    have h2 : n * (n * 4294967296 ^ E) ^ N < 4294967296 ^ (1 + (1 + E) * N + 1) := Nat.lt_of_le_of_lt h1 (Nat.pow_lt_pow_right (by omega) (by omega))
    exact Nat.le_trans (digs_length_le h2) (by omega)
theorem powB_of {x : MV} {k : Nat} {n : Int} (hx : IsM k x) (hk : 1 ≤ k) (hk3 : k ≤ 1000) (h : powE x n = 0) : PowB (2 ^ 30) x.rows.toNat (ent x x.rows.toNat) n.toNat := by
  unfold powE at h
  by_cases c0 : rightM x = true
  · rw [if_pos c0] at h
    by_cases c1 : x.rows = x.cols
    · rw [if_pos c1] at h
      by_cases c2 : n < 0
      · rw [if_pos c2] at h; cases h
      · rw [if_neg c2] at h
        by_cases c3 : n > 200
        · rw [if_pos c3] at h; cases h
        · obtain ⟨z1, z2, _⟩ := size_of_right c0
          exact powB_gen hx.ok hk (by omega) (by omega) hk3
    · rw [if_neg c1] at h; cases h
  · rw [if_neg c0] at h; cases h
end Go.Ab
