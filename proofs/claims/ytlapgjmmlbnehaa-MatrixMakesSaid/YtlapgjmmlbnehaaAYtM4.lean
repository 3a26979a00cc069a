/- The reference's Make, Zero and Identity, in values. -/
import Derived.Test.YtlapgjmmlbnehaaAYtM3
set_option linter.unusedVariables false
set_option linter.unusedSimpArgs false
set_option maxRecDepth 100000
namespace Go.Ab
open Go.Proofs.Try

/-! ### A row of fractions that is written to -/
def flatR (es : List RV) : List AV := es.flatMap fun r => [.bool r.neg, r.num.av, r.den.av]
theorem flatR_eq (es : List RV) : (es.map RV.av).flatMap AV.cells = flatR es := by
  induction es with
  | nil => rfl
  | cons r es ih => rw [List.map_cons, List.flatMap_cons, ih]; rfl
theorem flatR_length (es : List RV) : (flatR es).length = es.length * 3 := by
  induction es with
  | nil => rfl
  | cons r es ih =>
    show (_ :: _ :: _ :: flatR es).length = _
    rw [List.length_cons, List.length_cons, List.length_cons, ih, List.length_cons]; omega
theorem putAt_flat (r : RV) : ∀ (es : List RV) (i : Nat), i < es.length → putAt (flatR es) (i * 3) r.av.cells = flatR (es.set i r)
  | [], i, h => by simp at h
  | e :: es, 0, h => rfl
  | e :: es, i + 1, h => by
    have ih := putAt_flat r es i (by simpa using h)
    have e1 : (i + 1) * 3 = i * 3 + 1 + 1 + 1 := by omega
    show putAt (_ :: _ :: _ :: flatR es) ((i + 1) * 3) r.av.cells = _ :: _ :: _ :: flatR (es.set i r)
    rw [← ih, e1]
    unfold putAt
    have e2 : i * 3 + 1 + 1 + 1 + r.av.cells.length = i * 3 + r.av.cells.length + 1 + 1 + 1 := by omega
    rw [e2]
    simp only [List.take_succ_cons, List.drop_succ_cons, List.cons_append]
theorem grp_flat : ∀ es : List RV, grp (some 3) es.length (flatR es) = es.map RV.av
  | [] => rfl
  | r :: es => by
    have ih := grp_flat es
    show (groupBy 3 (es.length + 1) (_ :: _ :: _ :: flatR es)).map AV.agg = _
    rw [groupBy]
    show AV.agg [.bool r.neg, r.num.av, r.den.av] :: (groupBy 3 es.length (flatR es)).map AV.agg = _
    rw [show (groupBy 3 es.length (flatR es)).map AV.agg = es.map RV.av from ih]
    rfl
theorem mapF_flat (m : Mem) (k : Nat) : ∀ es : List RV, (∀ r ∈ es, r.fr = r) → mapF (frz m (k + 1)) (flatR es) = some (flatR es, [])
  | [], _ => rfl
  | r :: es, h => by
    have ih := mapF_flat m k es (fun r hr => h r (by simp [hr]))
    have hf := h r (by simp)
    have h1 : r.num.fr = r.num := congrArg RV.num hf
    have h2 : r.den.fr = r.den := congrArg RV.den hf
    show mapF (frz m (k + 1)) (_ :: _ :: _ :: flatR es) = _
    simp only [mapF, fza_bool r.neg m k, fza_nv r.num m k, fza_nv r.den m k, h1, h2, ih, Option.bind_some, Option.map_some, List.nil_append]
    rfl
theorem flat_ok : ∀ es : List RV, (∀ r ∈ es, r.fr = r) → ((flatR es).all atomOk && plL (flatR es)) = true
  | [], _ => rfl
  | r :: es, h => by
    have ih := flat_ok es (fun r hr => h r (by simp [hr]))
    have hf := h r (by simp)
    obtain ⟨n, ⟨z1, o1, d1⟩, ⟨z2, o2, d2⟩⟩ := r
    simp only [RV.fr, NV.fr, RV.mk.injEq, NV.mk.injEq, true_and, and_true] at hf
    simp only [Bool.and_eq_true] at ih
    show ((atomOk _ && (atomOk _ && (atomOk _ && (flatR es).all atomOk))) && (pl _ && (pl _ && (pl _ && plL (flatR es))))) = true
    rw [ih.1, ih.2]
    cases o1 <;> cases o2 <;> first | rfl | (simp [Own.fr] at hf)
theorem flat_rowC : ∀ es : List RV, (∀ r ∈ es, r.fr = r) → (flatR es).all rowC = true
  | [], _ => rfl
  | r :: es, h => by
    have ih := flat_rowC es (fun r hr => h r (by simp [hr]))
    have hf := h r (by simp)
    have hd : ∀ ds : List Nat, (ds.map dg).all isIntA = true := by intro ds; simp [List.all_map, dg, isIntA]
    obtain ⟨n, ⟨z1, o1, d1⟩, ⟨z2, o2, d2⟩⟩ := r
    simp only [RV.fr, NV.fr, RV.mk.injEq, NV.mk.injEq, true_and, and_true] at hf
    show (_ :: _ :: _ :: flatR es).all rowC = true
    rw [List.all_cons, List.all_cons, List.all_cons, ih]
    cases o1 <;> cases o2 <;> simp [Own.fr] at hf <;> simp [rowC, NV.av, hd]
theorem frz_arrR {m : Mem} {nm k : Nat} {es : List RV} (hm : m[nm]? = some (some (.obj false (flatR es)))) (hf : ∀ r ∈ es, r.fr = r) : frz m (k + 2) (.arr nm 0 es.length (some 3)) = some (.lst (some 3) false .no (es.map RV.av), [nm]) := by
  show (m.obj? nm).bind _ = _
  rw [mobj hm]
  have hl := flatR_length es
  simp only [Option.bind_some, Sh.size, Nat.zero_add, hl, Nat.le_refl, decide_true, Bool.not_false, Bool.and_self, if_true, List.drop_zero, List.take_of_length_le (Nat.le_of_eq hl)]
  rw [mapF_flat m k es hf]
  simp only [Option.bind_some, flat_ok es hf, if_true, grp_flat]

/-! ### zeros -/
theorem zeroF_ok : ROk 1 zeroF := canF_zero.ok (Bd_zero (by omega)) (by omega)
theorem oneF_ok : ROk 1 oneF := canF_one.ok (Bd_one (by omega)) (by omega)
theorem n_mul60 {a b : Nat} (h2 : a ≤ 60) (h4 : b ≤ 60) : binA .other .mul (.int .i64 a) (.int .i64 b) = some (.int .i64 (a * b : Nat)) := by
  rw [i_mul60 (by omega) (by omega) (by omega) (by omega), Int.natCast_mul]
theorem W61 {a b : Nat} (ha : a ≤ 60) (hb : b ≤ 60) (K : Ex → St → Option (AV × Mem)) : ∀ (j i : Nat) (m : Mem) (l : LV), i + j = a * b → m[0]? = some (cM zM) → m[1]? = some (cM ⟨a, b, l⟩) → RowAt m l → l.es = List.replicate i zeroF →
    ∃ m' l', m'[0]? = some (cM zM) ∧ m'[1]? = some (cM ⟨a, b, l'⟩) ∧ RowAt m' l' ∧ l'.es = List.replicate (a * b) zeroF ∧ L61_3 (.int .i64 a) (.int .i64 b) (.ptr 0 0) (.ptr 1 0) (.int .i64 i) m K = K (.exit 0) (O61_3 (.ptr 0 0) (.ptr 1 0) m') := by
  have hle : a * b ≤ 60 * 60 := Nat.mul_le_mul ha hb
  intro j
  induction j with
  | zero =>
    intro i m l hi h1 h2 h3 h4
    have : i = a * b := by omega
    subst this
    refine ⟨m, l, h1, h2, h3, h4, ?_⟩
    rw [L61_3_eq, n_mul60 ha hb, Option.bind_some, n_lss, Option.bind_some, ifA_dec, if_neg (by omega)]
  | succ j ih =>
    intro i m l hi h1 h2 h3 h4
    have hll : l.es.length < 5000 := by rw [h4, List.length_replicate]; omega
    obtain ⟨l', m1, m2, p1, p2, p3, p4, p5, p6⟩ := push (r := zeroF) h2 h3 hll
    obtain ⟨m', l'', q1, q2, q3, q4, q5⟩ := ih (i + 1) m2 l' (by omega) (p6.2 0 true _ (by omega) h1) p4 p5 (by
      rw [p2]
      show l.es ++ _ = _
      rw [h4, List.replicate_succ'])
    refine ⟨m', l'', q1, q2, q3, q4, ?_⟩
    have g2 := (Kp.app m [some .resv]).2 1 true _ h2
    rw [L61_3_eq, n_mul60 ha hb, Option.bind_some, n_lss, Option.bind_some, ifA_dec, if_pos (by omega), fld2, Option.bind_some]
    have p1' := p1
    rw [res1] at p1' ⊢
    rw [mld2 g2, Option.bind_some, pc0, V31, Option.map_some, Option.bind_some, build_row zeroF_fr, Option.bind_some, p1', Option.bind_some, Option.bind_some, p3, Option.bind_some, i_add1 (by omega), Option.bind_some]
    exact q5
theorem T61' {a b : Nat} (ha : a ≤ 60) (hb : b ≤ 60) : ∃ m' l', RowAt m' l' ∧ l'.es = List.replicate (a * b) zeroF ∧ AC cfg 61 [.int .i64 a, .int .i64 b] [] = some (MV.av ⟨a, b, l'⟩, m') := by
  obtain ⟨m', l', q1, q2, q3, q4, q5⟩ := W61 ha hb (K61_3 (finK cfg.P f61.results.toList)) (a * b) 0 [cM zM, cM ⟨a, b, nilL⟩] nilL (by omega) rfl rfl (.inl rfl) rfl
  have hl1 : 0 < m'.length := by
    apply Classical.byContradiction
    intro hcc
    rw [List.getElem?_eq_none (by omega)] at q1
    cases q1
  have e2 : ([cM zM, cM zM] : Mem)[1]? = some (cM zM) := rfl
  refine ⟨m'.set 0 (cM ⟨a, b, l'⟩), l', q3.set q1 _, q4, ?_⟩
  rw [T61, bldM01, Option.bind_some]
  simp only [new_m, new_r, List.length_nil, List.nil_append, List.length_cons, List.cons_append, Nat.zero_add]
  rw [mstA e2, Option.bind_some]
  simp only [List.set_cons_succ, List.set_cons_zero]
  refine q5.trans ?_
  rw [K61_3_x0, mldA q2, Option.bind_some, mstA q1, Option.bind_some, mldA (by rw [List.getElem?_set_self hl1])]
  rfl
theorem rep_fr {n : Nat} {x : RV} (hx : x.fr = x) : ∀ r ∈ List.replicate n x, r.fr = r := by
  intro r hr
  rw [(List.mem_replicate.1 hr).2]; exact hx
theorem V61 {a b : Nat} (ha : a ≤ 60) (hb : b ≤ 60) : ∃ y : MV, AP cfg 61 [.int .i64 a, .int .i64 b] = some y.av ∧ y.rows = a ∧ y.cols = b ∧ y.lv.es = List.replicate (a * b) zeroF ∧ LOk 1 y.lv ∧ y.fr = y := by
  obtain ⟨m', l', h1, h2, h3⟩ := T61' ha hb
  have hlo : LOk 1 l' := rowAt_lok h1 (by rw [h2]; exact rep_fr zeroF_fr) (by rw [h2]; intro r hr; rw [(List.mem_replicate.1 hr).2]; exact zeroF_ok)
  exact ⟨⟨a, b, l'.fr⟩, AP_ofz _ _ (fz_mv ⟨a, b, l'⟩) (noV_mv _) h3, rfl, rfl, h2, hlo.fr', by simp only [MV.fr, rowAt_fr h1]⟩
/-- The row comes to the caller, and may be written to. -/
theorem thaw61 {a b : Nat} (ha : a ≤ 60) (hb : b ≤ 60) (m : Mem) : (a * b = 0 ∧ thawCall (AC cfg) m 61 [.int .i64 a, .int .i64 b] = some (MV.av ⟨a, b, nilL⟩, m)) ∨
    (a * b ≠ 0 ∧ thawCall (AC cfg) m 61 [.int .i64 a, .int .i64 b] = some (.agg [.int .i64 a, .int .i64 b, .arr m.length 0 (a * b) (some 3)], m ++ [some (.obj false (flatR (List.replicate (a * b) zeroF)))])) := by
  obtain ⟨m', l', h1, h2, h3⟩ := T61' ha hb
  have e1 : mapF (frz m fuelF) [.int .i64 a, .int .i64 b] = some ([.int .i64 a, .int .i64 b], []) := rfl
  rcases h1 with rfl | ⟨g1, g2, g3, nm, g4, g5⟩
  · have h0 : a * b = 0 := by
      have := congrArg List.length h2
      rw [List.length_replicate] at this
      exact this.symm
    refine .inl ⟨h0, ?_⟩
    unfold thawCall
    rw [e1, Option.bind_some, h3, Option.bind_some]
    show some (_, kill m [] ++ []) = _
    rw [List.append_nil]; rfl
  · have hlen : l'.es.length = a * b := by rw [h2, List.length_replicate]
    have h0 : a * b ≠ 0 := by
      intro hz
      rw [hz] at h2
      exact g3 h2
    refine .inr ⟨h0, ?_⟩
    unfold thawCall
    rw [e1, Option.bind_some, h3, Option.bind_some]
    obtain ⟨sh, z, o, es⟩ := l'
    simp only at g1 g2 g4 g5 h2 hlen
    subst g1; subst g2; subst g4
    have hall : ((es.map RV.av).flatMap AV.cells).all rowC = true := by rw [flatR_eq]; exact flat_rowC es (by rw [h2]; exact rep_fr zeroF_fr)
    have ht : thawA m.length m' (MV.av ⟨a, b, ⟨some 3, false, .tok nm 43, es⟩⟩) = some (.agg [.int .i64 a, .int .i64 b, .arr m.length 0 (es.map RV.av).length (some 3)], [some (.obj false ((es.map RV.av).flatMap AV.cells))]) := by
      unfold thawA MV.av LV.av
      simp only [mget g5, List.length_map, hall, and_self, if_true]
    rw [ht, Option.map_some, flatR_eq, List.length_map, hlen, h2]
    rfl
theorem bldMz (m : Mem) {n : Nat} {x : MV} (h : m[n]? = some (cM x)) (v : AV) (a b : Int) (hv : atomOk v = true) : storeA (some 3) m (.ptr n 0) (.agg [.int .i64 a, .int .i64 b, v]) = some (m.set n (some (.obj true [.int .i64 a, .int .i64 b, v]))) := by
  have h2 : shOk (some 3) (.agg [.int .i64 a, .int .i64 b, v]) = true := by
    show (true && (true && (true && (atomOk v && true)))) = true
    rw [hv]; rfl
  simp only [storeA, mobj h, Option.bind_some, h2, if_true]
  rfl

/-! ### one -/
/-- The first rows are those of the identity. -/
def oneTo (n : Nat) : Nat → List RV
  | 0 => List.replicate (n * n) zeroF
  | i + 1 => (oneTo n i).set (i * n + i) oneF
theorem oneTo_length (n : Nat) : ∀ i, (oneTo n i).length = n * n
  | 0 => by simp [oneTo]
  | i + 1 => by simp [oneTo, oneTo_length n i]
theorem oneTo_mem (n : Nat) : ∀ i, ∀ r ∈ oneTo n i, r = zeroF ∨ r = oneF
  | 0, r, h => .inl (List.mem_replicate.1 h).2
  | i + 1, r, h => by
    rcases List.mem_or_eq_of_mem_set h with h | h
    · exact oneTo_mem n i r h
    · exact .inr h
theorem oneTo_fr (n i : Nat) : ∀ r ∈ oneTo n i, r.fr = r := by
  intro r hr
  rcases oneTo_mem n i r hr with rfl | rfl
  · exact zeroF_fr
  · exact oneF_fr
def bxO (n : Nat) : Option Ent := some (.obj true [.int .i64 n, .int .i64 n, .arr 1 0 (n * n) (some 3)])
theorem W63 {n : Nat} (hn : n ≤ 60) (K : Ex → St → Option (AV × Mem)) : ∀ (j i : Nat), i + j = n →
    L63_3 (.int .i64 n) (.ptr 0 0) (.ptr 2 0) (.int .i64 i) [cM zM, some (.obj false (flatR (oneTo n i))), bxO n] K = K (.exit 0) (O63_3 (.ptr 0 0) (.ptr 2 0) [cM zM, some (.obj false (flatR (oneTo n n))), bxO n]) := by
  intro j
  induction j with
  | zero =>
    intro i hi
    have : i = n := by omega
    subst this
    rw [L63_3_eq, n_lss, Option.bind_some, ifA_dec, if_neg (by omega)]
  | succ j ih =>
    intro i hi
    have ih := ih (i + 1) (by omega)
    have hle : i * n ≤ 60 * 60 := Nat.mul_le_mul (by omega) hn
    have hlt : i * n + i < n * n := by
      have : (i + 1) * n ≤ n * n := Nat.mul_le_mul_right _ (by omega)
      rw [Nat.succ_mul] at this
      omega
    have hl := flatR_length (oneTo n i)
    rw [oneTo_length] at hl
    have hld : loadA none [cM zM, some (.obj false (flatR (oneTo n i))), bxO n] (.ptr 2 2) = some (.arr 1 0 (n * n) (some 3)) := rfl
    have hix : indexAddrA (some 3) (.arr 1 0 (n * n) (some 3)) (.int .i64 (i * n + i : Nat)) = some (.ptr 1 ((i * n + i) * 3)) := by
      have h1 : ((i * n + i : Nat) : Int) < (n * n : Nat) := by omega
      simp only [indexAddrA, if_true]
      rw [if_pos ⟨by omega, h1⟩, Int.toNat_natCast, Nat.zero_add]; rfl
    have hst : storeA (some 3) [cM zM, some (.obj false (flatR (oneTo n i))), bxO n] (.ptr 1 ((i * n + i) * 3)) oneF.av = some [cM zM, some (.obj false (flatR (oneTo n (i + 1)))), bxO n] := by
      have ho : Mem.obj? [cM zM, some (.obj false (flatR (oneTo n i))), bxO n] 1 = some (false, flatR (oneTo n i)) := rfl
      have hs : shOk (some 3) oneF.av = true := rfl
      simp only [storeA, ho, Option.bind_some, hs, if_true]
      rw [if_pos (by rw [hl]; simp only [Sh.size]; omega), putAt_flat _ _ _ (by rw [oneTo_length]; exact hlt)]
      rfl
    rw [L63_3_eq, n_lss, Option.bind_some, ifA_dec, if_pos (by omega), fld2, Option.bind_some, hld, Option.bind_some, n_mul60 (by omega) hn, Option.bind_some, i_add (by omega), Option.bind_some, pc0, V28, Option.map_some, Option.bind_some, hix, Option.bind_some, hst, Option.bind_some, i_add1 (by omega), Option.bind_some]
    exact ih
theorem V63 {n : Nat} (hn : n ≤ 60) : ∃ y : MV, AP cfg 63 [.int .i64 n] = some y.av ∧ y.rows = n ∧ y.cols = n ∧ y.lv.es = oneTo n n ∧ LOk 1 y.lv ∧ y.fr = y := by
  have hok : ∀ r ∈ oneTo n n, ROk 1 r := by
    intro r hr
    rcases oneTo_mem n n r hr with rfl | rfl
    · exact zeroF_ok
    · exact oneF_ok
  rcases thaw61 hn hn [cM zM] with ⟨h0, h1⟩ | ⟨h0, h1⟩
  · have hn0 : n = 0 := by
      rcases Nat.mul_eq_zero.1 h0 with h | h <;> exact h
    subst hn0
    refine ⟨⟨(0 : Nat), (0 : Nat), nilL⟩, AP_ofz _ _ (fz_mv ⟨(0 : Nat), (0 : Nat), nilL⟩) (noV_mv _) (m := [cM ⟨(0 : Nat), (0 : Nat), nilL⟩, cM ⟨(0 : Nat), (0 : Nat), nilL⟩]) ?_, rfl, rfl, rfl, ⟨.inr rfl, fun _ => rfl, by simp [nilL], by simp [nilL]⟩, rfl⟩
    rw [T63]
    simp only [new_m, new_r, List.length_nil, List.nil_append]
    rw [h1, Option.bind_some]
    simp only [new_m, new_r, List.length_cons, List.length_nil, List.cons_append, List.nil_append, Nat.zero_add]
    rw [mstA (x := zM) rfl, Option.bind_some]
    simp only [List.set_cons_succ, List.set_cons_zero]
    rw [L63_3_eq, binA_lss, Option.bind_some, ifA_dec, if_neg (by omega), K63_3_x0, mldA (x := ⟨(0 : Nat), (0 : Nat), nilL⟩) rfl, Option.bind_some, mstA (x := zM) rfl, Option.bind_some]
    simp only [List.set_cons_zero]
    rw [mldA (x := ⟨(0 : Nat), (0 : Nat), nilL⟩) rfl]
    rfl
  · have hfz : frz [some (.obj true [.int .i64 n, .int .i64 n, .arr 1 0 (n * n) (some 3)]), some (.obj false (flatR (oneTo n n))), bxO n] fuelF (.agg [.int .i64 n, .int .i64 n, .arr 1 0 (n * n) (some 3)]) = some (MV.av ⟨n, n, ⟨some 3, false, .no, oneTo n n⟩⟩, [1]) := by
      have e : ∀ m : Mem, frz m fuelF (.agg [.int .i64 n, .int .i64 n, .arr 1 0 (n * n) (some 3)]) = (mapF (frz m 8) [.int .i64 n, .int .i64 n, .arr 1 0 (n * n) (some 3)]).map fun r => (.agg r.1, r.2) := fun _ => rfl
      have ha := frz_arrR (m := [some (.obj true [.int .i64 n, .int .i64 n, .arr 1 0 (n * n) (some 3)]), some (.obj false (flatR (oneTo n n))), bxO n]) (nm := 1) (k := 6) (es := oneTo n n) rfl (oneTo_fr n n)
      rw [oneTo_length] at ha
      have hi : ∀ (m : Mem) (x : Int), frz m 8 (.int .i64 x) = some (.int .i64 x, []) := fun _ _ => rfl
      rw [e]
      simp only [mapF, hi, ha, Option.bind_some, Option.map_some, List.nil_append, List.append_nil, MV.av, LV.av]
    refine ⟨⟨n, n, ⟨some 3, false, .no, oneTo n n⟩⟩, AP_of ?_ hfz (by rw [noV_mv, Bool.or_true]), rfl, rfl, rfl, ⟨.inl rfl, (fun h => absurd (show false = true from h) (by decide)), oneTo_fr n n, hok⟩, rfl⟩
    rw [T63]
    simp only [new_m, new_r, List.length_nil, List.nil_append]
    rw [h1, Option.bind_some]
    simp only [new_m, new_r, List.length_cons, List.length_nil, List.cons_append, List.nil_append, Nat.zero_add, Nat.reduceAdd]
    rw [bldMz _ (x := zM) rfl _ _ _ rfl, Option.bind_some]
    simp only [List.set_cons_succ, List.set_cons_zero]
    have hw := W63 hn (K63_3 (finK cfg.P f63.results.toList)) n 0 (by omega)
    refine Eq.trans ?_ (hw.trans ?_)
    · rfl
    rw [K63_3_x0]
    have l1 : loadA (some 3) [cM zM, some (.obj false (flatR (oneTo n n))), bxO n] (.ptr 2 0) = some (.agg [.int .i64 n, .int .i64 n, .arr 1 0 (n * n) (some 3)]) := rfl
    rw [l1, Option.bind_some, bldMz _ (x := zM) rfl _ _ _ rfl, Option.bind_some]
    rfl
end Go.Ab
