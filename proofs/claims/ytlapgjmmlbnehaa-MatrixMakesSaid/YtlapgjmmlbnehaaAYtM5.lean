/- At, Make, Zero, Identity; the law's own helpers, in values. -/
import Derived.Test.YtlapgjmmlbnehaaAYtM4
import Derived.Test.YtlapgjmmlbnehaaAYtLa
set_option linter.unusedVariables false
set_option linter.unusedSimpArgs false
set_option maxRecDepth 100000
namespace Go.Ab
open Go.Proofs.Try

/-! ### The reference's Make -/
theorem app_full {m : Mem} {l : LV} (hs : l.sh = some 3 ∨ l.es = []) (hlen : l.es.length * 56 ≤ roomA) : ∃ (l' : LV) (m' : Mem), appA none false 43 (some 3) 56 m (.lst (some 3) false .full []) l.av = some (l'.av, m ++ m') ∧ l'.es = l.es ∧ l'.sh = some 3 ∧ l'.z = false ∧ l'.fr.fr = l'.fr := by
  obtain ⟨sh, z, o, es⟩ := l
  cases es with
  | nil => exact ⟨⟨some 3, false, .full, []⟩, [], by rw [List.append_nil]; rfl, rfl, rfl, rfl, rfl⟩
  | cons r es =>
    have h1 : sh = some 3 := hs.resolve_right (by simp)
    subst h1
    have h2 : (es.length + 1) * 56 ≤ roomA := by simpa using hlen
    refine ⟨⟨some 3, false, .tok m.length 43, r :: es⟩, [some (.tok (es.length + 1) 3)], ?_, rfl, rfl, rfl, rfl⟩
    simp only [LV.av, appA, List.map_cons, List.length_cons, List.length_nil, List.length_map, Nat.zero_add, h2, if_true, newAt, Sh.size, List.nil_append, Bool.false_eq_true, if_false, true_or]
theorem V15 {a b : Int} {l : LV} {k : Nat} (hk : k < 2 ^ 38) (hx : LOk k l) (hlen : l.es.length < 4500) : ∃ y : MV, ∃ e : Int, AP cfg 15 [.int .i64 a, .int .i64 b, l.av] = some (.tup [y.av, .int .i64 e]) ∧ y.fr = y ∧ LOk k y.lv ∧
    ((rightM ⟨a, b, l⟩ = true ∧ e = 0 ∧ y.rows = a ∧ y.cols = b ∧ y.lv.es = l.es) ∨ (rightM ⟨a, b, l⟩ = false ∧ e = 1 ∧ y = zM)) := by
  obtain ⟨l', m', h1, h2, h3, h4, h5⟩ := app_full (m := [cM zM]) hx.sh (by simp only [roomA]; omega)
  have hlo : LOk k l' := ⟨.inl h3, fun h => absurd (h4.symm.trans h) (by decide), by rw [h2]; exact hx.fr, by rw [h2]; exact hx.ok⟩
  have e1 := V21 (x := (MV.mk a b l').fr) hlo.fr' (k := k) hk (by show l'.es.length < _; rw [h2]; omega)
  have hrf : rightM (MV.mk a b l').fr = rightM ⟨a, b, l⟩ := by
    unfold rightM sizeB
    simp only [MV.fr, LV.fr, h2]
  rw [hrf] at e1
  have hbs : buildSliceA (some 3) [] = some (.lst (some 3) false .full []) := rfl
  have s1 : ([cM zM] ++ m' ++ [cM zM])[([cM zM] ++ m').length]? = some (cM zM) := get_last
  have s0 : ∀ e, ([cM zM] ++ m' ++ [e])[0]? = some (cM zM) := fun _ => rfl
  have sset : ∀ e e', ([cM zM] ++ m' ++ [e]).set ([cM zM] ++ m').length e' = [cM zM] ++ m' ++ [e'] := by
    intro e e'
    rw [List.set_append_right _ _ (Nat.le_refl _), Nat.sub_self, List.set_cons_zero]
  have s2 : ([cM zM] ++ m' ++ [cM ⟨a, b, l'⟩])[([cM zM] ++ m').length]? = some (cM ⟨a, b, l'⟩) := get_last
  cases hb : rightM ⟨a, b, l⟩ with
  | false =>
    rw [hb] at e1
    refine ⟨zM, 1, AP_ofz _ _ (fz_tupM2 zM (fza_int _ _)) rfl (m := [cM zM] ++ m' ++ [cM ⟨a, b, l'⟩]) ?_, rfl, zM_ok k, .inr ⟨rfl, rfl, rfl⟩⟩
    rw [T15, hbs, Option.bind_some]
    simp only [new_m, new_r, List.length_nil, List.nil_append]
    rw [h1, Option.bind_some, bldM012, Option.bind_some]
    simp only [new_m, new_r]
    rw [mstA s1, Option.bind_some, sset, mldA s2, Option.bind_some, pcM, e1, Option.map_some, Option.bind_some, not_b, Option.bind_some, Bool.not_false, ifA_true, bldM, Option.bind_some, mstA (s0 _), Option.bind_some, mldA (x := zM) rfl]
    rfl
  | true =>
    rw [hb] at e1
    refine ⟨⟨a, b, l'.fr⟩, 0, AP_ofz _ _ (fz_tupM2 ⟨a, b, l'⟩ (fza_int _ _)) rfl (m := ([cM zM] ++ m' ++ [cM ⟨a, b, l'⟩]).set 0 (cM ⟨a, b, l'⟩)) ?_, by simp only [MV.fr, h5], hlo.fr', .inl ⟨rfl, rfl, rfl, rfl, h2⟩⟩
    rw [T15, hbs, Option.bind_some]
    simp only [new_m, new_r, List.length_nil, List.nil_append]
    rw [h1, Option.bind_some, bldM012, Option.bind_some]
    simp only [new_m, new_r]
    rw [mstA s1, Option.bind_some, sset, mldA s2, Option.bind_some, pcM, e1, Option.map_some, Option.bind_some, not_b, Option.bind_some, Bool.not_true, ifA_false, mldA s2, Option.bind_some, mstA (s0 _), Option.bind_some, mldA (x := ⟨a, b, l'⟩) rfl]
    rfl

/-! ### The reference's Zero and Identity -/
theorem V17 (a b : Int) : ∃ y : MV, AP cfg 17 [.int .i64 a, .int .i64 b] = some (.tup [y.av, .int .i64 (sizeE a b)]) ∧ y.fr = y ∧ LOk 1 y.lv ∧
    ((sizeE a b ≠ 0 ∧ y = zM) ∨ (sizeE a b = 0 ∧ y.rows = a ∧ y.cols = b ∧ y.lv.es = List.replicate (a.toNat * b.toNat) zeroF)) := by
  have bad : ∀ e : Int, sizeE a b = e → e ≠ 0 → AC cfg 17 [.int .i64 a, .int .i64 b] [] = some (.tup [zM.av, .int .i64 e], [cM zM]) → ∃ y : MV, AP cfg 17 [.int .i64 a, .int .i64 b] = some (.tup [y.av, .int .i64 (sizeE a b)]) ∧ y.fr = y ∧ LOk 1 y.lv ∧
    ((sizeE a b ≠ 0 ∧ y = zM) ∨ (sizeE a b = 0 ∧ y.rows = a ∧ y.cols = b ∧ y.lv.es = List.replicate (a.toNat * b.toNat) zeroF)) := by
    intro e he hne h
    rw [he]
    exact ⟨zM, AP_ofz _ _ (fz_tupM2 zM (fza_int _ _)) rfl h, rfl, zM_ok 1, .inl ⟨hne, rfl⟩⟩
  have z0 : storeA (some 3) [cM zM] (.ptr 0 0) zM.av = some [cM zM] := rfl
  have z1 : loadA (some 3) [cM zM] (.ptr 0 0) = some zM.av := rfl
  by_cases c1 : a < 0
  · refine bad 1 (by unfold sizeE; rw [if_pos (.inl c1)]) (by omega) ?_
    rw [T17, binA_lss, Option.bind_some, ifA_dec, if_pos c1, bldM, Option.bind_some]
    simp only [new_m, new_r, List.length_nil, List.nil_append]
    rw [z0, Option.bind_some, z1]; rfl
  by_cases c2 : b < 0
  · refine bad 1 (by unfold sizeE; rw [if_pos (.inr c2)]) (by omega) ?_
    rw [T17, binA_lss, Option.bind_some, ifA_dec, if_neg c1, binA_lss, Option.bind_some, ifA_dec, if_pos c2, bldM, Option.bind_some]
    simp only [new_m, new_r, List.length_nil, List.nil_append]
    rw [z0, Option.bind_some, z1]; rfl
  by_cases c3 : a > 60
  · refine bad 2 (by unfold sizeE; rw [if_neg (fun h => h.elim c1 c2), if_pos (.inl c3)]) (by omega) ?_
    rw [T17, binA_lss, Option.bind_some, ifA_dec, if_neg c1, binA_lss, Option.bind_some, ifA_dec, if_neg c2, binA_gtr, Option.bind_some, ifA_dec, if_pos c3, bldM, Option.bind_some]
    simp only [new_m, new_r, List.length_nil, List.nil_append]
    rw [z0, Option.bind_some, z1]; rfl
  by_cases c4 : b > 60
  · refine bad 2 (by unfold sizeE; rw [if_neg (fun h => h.elim c1 c2), if_pos (.inr c4)]) (by omega) ?_
    rw [T17, binA_lss, Option.bind_some, ifA_dec, if_neg c1, binA_lss, Option.bind_some, ifA_dec, if_neg c2, binA_gtr, Option.bind_some, ifA_dec, if_neg c3, binA_gtr, Option.bind_some, ifA_dec, if_pos c4, bldM, Option.bind_some]
    simp only [new_m, new_r, List.length_nil, List.nil_append]
    rw [z0, Option.bind_some, z1]; rfl
  obtain ⟨x, rfl⟩ := Int.eq_ofNat_of_zero_le (show 0 ≤ a by omega)
  obtain ⟨z, rfl⟩ := Int.eq_ofNat_of_zero_le (show 0 ≤ b by omega)
  have h0 : sizeE x z = 0 := by unfold sizeE; rw [if_neg (fun h => h.elim c1 c2), if_neg (fun h => h.elim c3 c4)]
  obtain ⟨y, f1, f2, f3, f4, f5, f6⟩ := V61 (a := x) (b := z) (by omega) (by omega)
  refine ⟨y, (AP_ofz _ _ (fz_tupM2 y (fza_int _ _)) rfl (m := [cM y]) ?_).trans (by rw [f6]), f6, f5, .inr ⟨h0, f2, f3, f4⟩⟩
  rw [T17, binA_lss, Option.bind_some, ifA_dec, if_neg c1, binA_lss, Option.bind_some, ifA_dec, if_neg c2, binA_gtr, Option.bind_some, ifA_dec, if_neg c3, binA_gtr, Option.bind_some, ifA_dec, if_neg c4]
  simp only [new_m, new_r, List.length_nil, List.nil_append]
  rw [pcII, f1, Option.map_some, Option.bind_some, mstA (x := zM) rfl, Option.bind_some]
  simp only [List.set_cons_zero]
  rw [mldA (x := y) rfl, h0]
  rfl
theorem V19 (a : Int) : ∃ y : MV, AP cfg 19 [.int .i64 a] = some (.tup [y.av, .int .i64 (sizeE a a)]) ∧ y.fr = y ∧ LOk 1 y.lv ∧
    ((sizeE a a ≠ 0 ∧ y = zM) ∨ (sizeE a a = 0 ∧ y.rows = a ∧ y.cols = a ∧ y.lv.es = oneTo a.toNat a.toNat)) := by
  have bad : ∀ e : Int, sizeE a a = e → e ≠ 0 → AC cfg 19 [.int .i64 a] [] = some (.tup [zM.av, .int .i64 e], [cM zM]) → ∃ y : MV, AP cfg 19 [.int .i64 a] = some (.tup [y.av, .int .i64 (sizeE a a)]) ∧ y.fr = y ∧ LOk 1 y.lv ∧
    ((sizeE a a ≠ 0 ∧ y = zM) ∨ (sizeE a a = 0 ∧ y.rows = a ∧ y.cols = a ∧ y.lv.es = oneTo a.toNat a.toNat)) := by
    intro e he hne h
    rw [he]
    exact ⟨zM, AP_ofz _ _ (fz_tupM2 zM (fza_int _ _)) rfl h, rfl, zM_ok 1, .inl ⟨hne, rfl⟩⟩
  have z0 : storeA (some 3) [cM zM] (.ptr 0 0) zM.av = some [cM zM] := rfl
  have z1 : loadA (some 3) [cM zM] (.ptr 0 0) = some zM.av := rfl
  by_cases c1 : a < 0
  · refine bad 1 (by unfold sizeE; rw [if_pos (.inl c1)]) (by omega) ?_
    rw [T19, binA_lss, Option.bind_some, ifA_dec, if_pos c1, bldM, Option.bind_some]
    simp only [new_m, new_r, List.length_nil, List.nil_append]
    rw [z0, Option.bind_some, z1]; rfl
  by_cases c3 : a > 60
  · refine bad 2 (by unfold sizeE; rw [if_neg (fun h => h.elim c1 c1), if_pos (.inl c3)]) (by omega) ?_
    rw [T19, binA_lss, Option.bind_some, ifA_dec, if_neg c1, binA_gtr, Option.bind_some, ifA_dec, if_pos c3, bldM, Option.bind_some]
    simp only [new_m, new_r, List.length_nil, List.nil_append]
    rw [z0, Option.bind_some, z1]; rfl
  obtain ⟨x, rfl⟩ := Int.eq_ofNat_of_zero_le (show 0 ≤ a by omega)
  have h0 : sizeE x x = 0 := by unfold sizeE; rw [if_neg (fun h => h.elim c1 c1), if_neg (fun h => h.elim c3 c3)]
  obtain ⟨y, f1, f2, f3, f4, f5, f6⟩ := V63 (n := x) (by omega)
  refine ⟨y, (AP_ofz _ _ (fz_tupM2 y (fza_int _ _)) rfl (m := [cM y]) ?_).trans (by rw [f6]), f6, f5, .inr ⟨h0, f2, f3, f4⟩⟩
  rw [T19, binA_lss, Option.bind_some, ifA_dec, if_neg c1, binA_gtr, Option.bind_some, ifA_dec, if_neg c3]
  simp only [new_m, new_r, List.length_nil, List.nil_append]
  rw [pcI, f1, Option.map_some, Option.bind_some, mstA (x := zM) rfl, Option.bind_some]
  simp only [List.set_cons_zero]
  rw [mldA (x := y) rfl, h0]
  rfl
/-! ### same, alive -/
theorem V22 {x y : MV} {k : Nat} (hx : LOk k x.lv) (hy : LOk k y.lv) (hk1 : 1 ≤ k) (hk : k < 2 ^ 36) (hlen : x.lv.es.length < 2 ^ 40) (e f : Int) : AP cfg 22 [x.av, .int .i64 e, y.av, .int .i64 f] = some (.bool (decide (e = f) && sameM x y)) := by
  have e1 := V40 hx.fr' hy.fr' hk1 hk (x := x.fr) (y := y.fr) hlen
  have hs : sameM x.fr y.fr = sameM x y := rfl
  rw [hs] at e1
  have g0 : ([cM x, cM y] : Mem)[0]? = some (cM x) := rfl
  have g1 : ([cM x, cM y] : Mem)[1]? = some (cM y) := rfl
  refine AP_ofz _ _ (fz_bool _) rfl (m := [cM x, cM y]) ?_
  rw [T22, box_mv, Option.bind_some, box_mv, Option.bind_some, binA_eql, Option.bind_some, ifA_dec]
  simp only [List.length_nil, List.nil_append, List.length_cons, List.cons_append, Nat.zero_add]
  by_cases h : e = f
  · rw [if_pos h, mldA g0, Option.bind_some, mldA g1, Option.bind_some, pcall2 (fz_mv x) (fz_mv y), e1, decide_eq_true h, Bool.true_and]
    rfl
  · rw [if_neg h, decide_eq_false h]; rfl
theorem V26 : AP cfg 26 [] = some (.bool true) := by
  obtain ⟨y, f1, f2, f3, f4⟩ := V18 2
  have h0 : sizeE 2 2 = 0 := rfl
  rcases f4 with ⟨h, _⟩ | ⟨_, h1, h2, h3⟩
  · exact absurd h0 h
  have hl : y.lv.es.length = 4 := by rw [h3, cellsF_length]; rfl
  have g0 : ([cM y] : Mem)[0]? = some (cM y) := rfl
  have q1 : binA .other .eql (.int .i64 (4 : Nat)) (.int .i64 4) = some (.bool true) := rfl
  refine AP_ofz _ _ (fz_bool _) rfl (m := [cM y]) ?_
  rw [h0] at f1
  rw [T26, pcI, f1, Option.map_some, Option.bind_some, ex0, Option.bind_some, ex1, Option.bind_some]
  simp only [new_m, new_r, List.length_nil, List.nil_append]
  rw [mstA (x := zM) rfl, Option.bind_some]
  simp only [List.set_cons_zero]
  rw [binA_eql, Option.bind_some, ifA_dec, if_pos rfl, fld0, Option.bind_some, mld0 g0, Option.bind_some, h1, binA_eql, Option.bind_some, ifA_dec, if_pos rfl, fld2, Option.bind_some, mld2 g0, Option.bind_some, len_lv, Option.bind_some, hl, q1]
  rfl

/-! ### At (24) -/
theorem V24 {x : MV} {k : Nat} (i c : Int) (hk : k < 2 ^ 38) (hx : LOk k x.lv) (hlen : x.lv.es.length < 2 ^ 40) : ∃ r : RV, AP cfg 24 [x.av, .int .i64 i, .int .i64 c] = some r.av ∧ ROk (k + 1) r ∧ r.fr = r ∧
    r.q = if rightM x = true ∧ 0 ≤ i ∧ i < x.rows ∧ 0 ≤ c ∧ c < x.cols then (x.lv.es.map RV.q).getD (i * x.cols + c).toNat 0 else 0 := by
  have e1 := V20 (x := x.fr) hx.fr' hk hlen
  have hrf : rightM x.fr = rightM x := rfl
  rw [hrf] at e1
  have g0 : ([cM x, cR zR] : Mem)[0]? = some (cM x) := rfl
  have g1 : ([cM x, cR zR] : Mem)[1]? = some (cR zR) := rfl
  have hz : zeroR.q = 0 := can_zero.q
  have out : ∀ r : RV, r.fr = r → AC cfg 24 [x.av, .int .i64 i, .int .i64 c] [] = some (r.av, [cM x, cR r]) → AP cfg 24 [x.av, .int .i64 i, .int .i64 c] = some r.av := by
    intro r hr h
    exact (AP_ofz _ _ (fz_rv r) (noV_rv _) h).trans (by rw [hr])
  have zst : ∀ r : RV, storeA (some 3) [cM x, cR zR] (.ptr 1 0) r.av = some [cM x, cR r] := fun r => by rw [rstA g1]; rfl
  have zld : ∀ r : RV, loadA (some 3) [cM x, cR r] (.ptr 1 0) = some r.av := fun r => rldA rfl
  have zero : ∀ {R : Option (AV × Mem)}, (¬ (rightM x = true ∧ 0 ≤ i ∧ i < x.rows ∧ 0 ≤ c ∧ c < x.cols)) → (AC cfg 24 [x.av, .int .i64 i, .int .i64 c] [] = ((pcall (AP cfg) none [cM x, cR zR] 60 []).bind fun r5 => (storeA (some 3) r5.2 (.ptr 1 0) r5.1).bind fun m6 => (loadA (some 3) m6 (.ptr 1 0)).bind fun v7 => some (v7, m6))) →
      ∃ r : RV, AP cfg 24 [x.av, .int .i64 i, .int .i64 c] = some r.av ∧ ROk (k + 1) r ∧ r.fr = r ∧ r.q = if rightM x = true ∧ 0 ≤ i ∧ i < x.rows ∧ 0 ≤ c ∧ c < x.cols then (x.lv.es.map RV.q).getD (i * x.cols + c).toNat 0 else 0 := by
    intro R hn h
    refine ⟨zeroR, out zeroR zeroR_fr (h.trans ?_), zeroR_ok.mono (by omega), zeroR_fr, by rw [if_neg hn, hz]⟩
    rw [pc0, V60, Option.map_some, Option.bind_some, zst, Option.bind_some, zld]; rfl
  have start : AC cfg 24 [x.av, .int .i64 i, .int .i64 c] [] = AC cfg 24 [x.av, .int .i64 i, .int .i64 c] [] := rfl
  conv at start => rhs; rw [T24, box_mv]
  simp only [Option.bind_some, new_z', new_r, fld0, fld1, fld2, List.length_nil, List.nil_append, List.length_cons, List.cons_append, Nat.zero_add] at start
  rw [mldA g0, Option.bind_some, pcM, e1, Option.map_some, Option.bind_some, not_b, Option.bind_some] at start
  cases hb : rightM x with
  | false =>
    rw [hb, Bool.not_false, ifA_true] at start
    rw [hb] at zero
    exact zero (R := none) (fun h => by cases h.1) start
  | true =>
    rw [hb, Bool.not_true, ifA_false, binA_lss, Option.bind_some, ifA_dec] at start
    rw [hb] at zero
    have hsz : sizeB x = true := by unfold rightM at hb; rw [Bool.and_eq_true] at hb; exact hb.1
    unfold sizeB at hsz
    obtain ⟨z1, z2, z3, z4, z5⟩ := of_decide_eq_true hsz
    by_cases c1 : i < 0
    · rw [if_pos c1] at start
      exact zero (R := none) (fun h => by omega) start
    rw [if_neg c1, mld0 g0, Option.bind_some, binA_geq, Option.bind_some, ifA_dec] at start
    by_cases c2 : i ≥ x.rows
    · rw [if_pos c2] at start
      exact zero (R := none) (fun h => by omega) start
    rw [if_neg c2, binA_lss, Option.bind_some, ifA_dec] at start
    by_cases c3 : c < 0
    · rw [if_pos c3] at start
      exact zero (R := none) (fun h => by omega) start
    rw [if_neg c3, mld1 g0, Option.bind_some, binA_geq, Option.bind_some, ifA_dec] at start
    by_cases c4 : c ≥ x.cols
    · rw [if_pos c4] at start
      exact zero (R := none) (fun h => by omega) start
    rw [if_neg c4, mld2 g0, Option.bind_some, Option.bind_some, i_mul60 (by omega) (by omega) (by omega) (by omega), Option.bind_some] at start
    obtain ⟨k1, k2⟩ := mul60 (a := i) (b := x.cols) (by omega) (by omega) (by omega) (by omega)
    have hlt : i * x.cols + c < x.rows * x.cols := by
      have h1 : (i + 1) * x.cols ≤ x.rows * x.cols := Int.mul_le_mul_of_nonneg_right (by omega) (by omega)
      rw [Int.add_mul, Int.one_mul] at h1
      omega
    obtain ⟨p, hp⟩ := Int.eq_ofNat_of_zero_le (show 0 ≤ i * x.cols + c by omega)
    have hpl : p < x.lv.es.length := by omega
    rw [binA_add, wrap_i64 (by omega) (by omega), Option.bind_some, hp, index_lv hx hpl, Option.bind_some, load_row, Option.bind_some] at start
    have hr := hx.ok x.lv.es[p] (List.getElem_mem hpl)
    have hf := hx.fr x.lv.es[p] (List.getElem_mem hpl)
    have hq : (x.lv.es.map RV.q).getD (i * x.cols + c).toNat 0 = x.lv.es[p].q := by
      rw [hp, Int.toNat_natCast, List.getD_eq_getElem?_getD, List.getElem?_map, List.getElem?_eq_getElem hpl]; rfl
    rw [pcR, hf, V67 hr, Option.map_some, Option.bind_some, zst, Option.bind_some, zld, Option.bind_some] at start
    exact ⟨copyR x.lv.es[p], out _ (copyR_fr _) start, (copyR_ok hr).mono (by omega), copyR_fr _, by rw [if_pos ⟨rfl, by omega, by omega, by omega, by omega⟩, hq, copyR_q]⟩

/-! ### At (25) -/
theorem V25 {x : MV} {k : Nat} (i c : Int) (hk : k < 2 ^ 38) (hx : LOk k x.lv) (hlen : x.lv.es.length < 2 ^ 40) : ∃ r : RV, AP cfg 25 [x.av, .int .i64 i, .int .i64 c] = some r.av ∧ ROk (k + 1) r ∧ r.fr = r ∧
    r.q = if rightM x = true ∧ 0 ≤ i ∧ i < x.rows ∧ 0 ≤ c ∧ c < x.cols then (x.lv.es.map RV.q).getD (i * x.cols + c).toNat 0 else 0 := by
  have e1 := V21 (x := x.fr) hx.fr' hk hlen
  have hrf : rightM x.fr = rightM x := rfl
  rw [hrf] at e1
  have g0 : ([cM x, cR zR] : Mem)[0]? = some (cM x) := rfl
  have g1 : ([cM x, cR zR] : Mem)[1]? = some (cR zR) := rfl
  have hz : zeroF.q = 0 := canF_zero.q
  have out : ∀ r : RV, r.fr = r → AC cfg 25 [x.av, .int .i64 i, .int .i64 c] [] = some (r.av, [cM x, cR r]) → AP cfg 25 [x.av, .int .i64 i, .int .i64 c] = some r.av := by
    intro r hr h
    exact (AP_ofz _ _ (fz_rv r) (noV_rv _) h).trans (by rw [hr])
  have zst : ∀ r : RV, storeA (some 3) [cM x, cR zR] (.ptr 1 0) r.av = some [cM x, cR r] := fun r => by rw [rstA g1]; rfl
  have zld : ∀ r : RV, loadA (some 3) [cM x, cR r] (.ptr 1 0) = some r.av := fun r => rldA rfl
  have zero : ∀ {R : Option (AV × Mem)}, (¬ (rightM x = true ∧ 0 ≤ i ∧ i < x.rows ∧ 0 ≤ c ∧ c < x.cols)) → (AC cfg 25 [x.av, .int .i64 i, .int .i64 c] [] = ((pcall (AP cfg) none [cM x, cR zR] 31 []).bind fun r5 => (storeA (some 3) r5.2 (.ptr 1 0) r5.1).bind fun m6 => (loadA (some 3) m6 (.ptr 1 0)).bind fun v7 => some (v7, m6))) →
      ∃ r : RV, AP cfg 25 [x.av, .int .i64 i, .int .i64 c] = some r.av ∧ ROk (k + 1) r ∧ r.fr = r ∧ r.q = if rightM x = true ∧ 0 ≤ i ∧ i < x.rows ∧ 0 ≤ c ∧ c < x.cols then (x.lv.es.map RV.q).getD (i * x.cols + c).toNat 0 else 0 := by
    intro R hn h
    refine ⟨zeroF, out zeroF zeroF_fr (h.trans ?_), zeroF_ok.mono (by omega), zeroF_fr, by rw [if_neg hn, hz]⟩
    rw [pc0, V31, Option.map_some, Option.bind_some, zst, Option.bind_some, zld]; rfl
  have start : AC cfg 25 [x.av, .int .i64 i, .int .i64 c] [] = AC cfg 25 [x.av, .int .i64 i, .int .i64 c] [] := rfl
  conv at start => rhs; rw [T25, box_mv]
  simp only [Option.bind_some, new_z', new_r, fld0, fld1, fld2, List.length_nil, List.nil_append, List.length_cons, List.cons_append, Nat.zero_add] at start
  rw [mldA g0, Option.bind_some, pcM, e1, Option.map_some, Option.bind_some, not_b, Option.bind_some] at start
  cases hb : rightM x with
  | false =>
    rw [hb, Bool.not_false, ifA_true] at start
    rw [hb] at zero
    exact zero (R := none) (fun h => by cases h.1) start
  | true =>
    rw [hb, Bool.not_true, ifA_false, binA_lss, Option.bind_some, ifA_dec] at start
    rw [hb] at zero
    have hsz : sizeB x = true := by unfold rightM at hb; rw [Bool.and_eq_true] at hb; exact hb.1
    unfold sizeB at hsz
    obtain ⟨z1, z2, z3, z4, z5⟩ := of_decide_eq_true hsz
    by_cases c1 : i < 0
    · rw [if_pos c1] at start
      exact zero (R := none) (fun h => by omega) start
    rw [if_neg c1, mld0 g0, Option.bind_some, binA_geq, Option.bind_some, ifA_dec] at start
    by_cases c2 : i ≥ x.rows
    · rw [if_pos c2] at start
      exact zero (R := none) (fun h => by omega) start
    rw [if_neg c2, binA_lss, Option.bind_some, ifA_dec] at start
    by_cases c3 : c < 0
    · rw [if_pos c3] at start
      exact zero (R := none) (fun h => by omega) start
    rw [if_neg c3, mld1 g0, Option.bind_some, binA_geq, Option.bind_some, ifA_dec] at start
    by_cases c4 : c ≥ x.cols
    · rw [if_pos c4] at start
      exact zero (R := none) (fun h => by omega) start
    rw [if_neg c4, mld2 g0, Option.bind_some, Option.bind_some, i_mul60 (by omega) (by omega) (by omega) (by omega), Option.bind_some] at start
    obtain ⟨k1, k2⟩ := mul60 (a := i) (b := x.cols) (by omega) (by omega) (by omega) (by omega)
    have hlt : i * x.cols + c < x.rows * x.cols := by
      have h1 : (i + 1) * x.cols ≤ x.rows * x.cols := Int.mul_le_mul_of_nonneg_right (by omega) (by omega)
      rw [Int.add_mul, Int.one_mul] at h1
      omega
    obtain ⟨p, hp⟩ := Int.eq_ofNat_of_zero_le (show 0 ≤ i * x.cols + c by omega)
    have hpl : p < x.lv.es.length := by omega
    rw [binA_add, wrap_i64 (by omega) (by omega), Option.bind_some, hp, index_lv hx hpl, Option.bind_some, load_row, Option.bind_some] at start
    have hr := hx.ok x.lv.es[p] (List.getElem_mem hpl)
    have hf := hx.fr x.lv.es[p] (List.getElem_mem hpl)
    have hq : (x.lv.es.map RV.q).getD (i * x.cols + c).toNat 0 = x.lv.es[p].q := by
      rw [hp, Int.toNat_natCast, List.getD_eq_getElem?_getD, List.getElem?_map, List.getElem?_eq_getElem hpl]; rfl
    rw [zst, Option.bind_some, zld, Option.bind_some] at start
    exact ⟨x.lv.es[p], out _ hf start, hr.mono (by omega), hf, by rw [if_pos ⟨rfl, by omega, by omega, by omega, by omega⟩, hq]⟩
end Go.Ab
