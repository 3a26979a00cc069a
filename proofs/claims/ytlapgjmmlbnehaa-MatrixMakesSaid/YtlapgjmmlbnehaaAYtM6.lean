/- Inputs cut to size, in values. -/
import Derived.Test.YtlapgjmmlbnehaaAYtM5
set_option linter.unusedVariables false
set_option linter.unusedSimpArgs false
set_option maxRecDepth 100000
namespace Go.Ab
open Go.Proofs.Try

/-! ### nat -/
def cutN (x : NV) : NV := ⟨x.z, .no, x.ds.take 3⟩
theorem min_int (a b : Nat) : maxA false (.int .i64 a) (.int .i64 b) = some (.int .i64 (min a b : Nat)) := by
  show some (AV.int .i64 (if (b : Int) < (a : Int) then (b : Int) else (a : Int))) = _
  by_cases h : b < a
  · rw [if_pos (by omega), Nat.min_eq_right (by omega)]
  · rw [if_neg (by omega), Nat.min_eq_left (by omega)]
theorem V32 {x : NV} : AP cfg 32 [x.av, .int .i64 3] = some (cutN x).av := by
  refine AP_ofz _ _ (fz_nv (cutN x)) (noV_nv _) (m := []) ?_
  have h1 : maxA false (.int .i64 x.ds.length) (.int .i64 3) = some (.int .i64 (min x.ds.length 3 : Nat)) := min_int _ 3
  have hs := sliceT_to (z := x.z) (o := x.o) (ds := x.ds) (k := .i64) (i := (min x.ds.length 3 : Nat)) (by omega) (by omega)
  rw [← NV.av, Int.toNat_natCast] at hs
  rw [T32, len_nv, Option.bind_some, h1, Option.bind_some, hs, Option.bind_some]
  have ht : x.ds.take (min x.ds.length 3) = x.ds.take 3 := by
    by_cases h : x.ds.length ≤ 3
    · rw [Nat.min_eq_left h, List.take_of_length_le (Nat.le_refl _), List.take_of_length_le h]
    · rw [Nat.min_eq_right (by omega)]
  rw [ht]
  rfl
/-- What a number of the input is. -/
structure XN (x : NV) : Prop where
  dg : Dg x.ds
  nil : x.z = true → x.ds = []
theorem cutN_ok {x : NV} (h : XN x) : NOk (cutN x) ∧ (cutN x).ds.length ≤ 3 := by
  have hl : (x.ds.take 3).length ≤ 3 := by rw [List.length_take]; omega
  refine ⟨⟨h.dg.take 3, ?_, ?_⟩, hl⟩
  · show (x.ds.take 3).length < 2 ^ 40
    omega
  · intro hz
    show x.ds.take 3 = []
    rw [h.nil hz]; rfl
structure XR (r : RV) : Prop where
  num : XN r.num
  den : XN r.den
  fr : r.fr = r
def cutR (r : RV) : RV := ⟨r.neg, cutN r.num, cutN r.den⟩
theorem cutR_fr (r : RV) : (cutR r).fr = cutR r := rfl
theorem cutR_ok {r : RV} (h : XR r) : ROk 3 (cutR r) := ⟨(cutN_ok h.num).1, (cutN_ok h.den).1, (cutN_ok h.num).2, (cutN_ok h.den).2⟩
structure XM (x : MV) : Prop where
  sh : x.lv.sh = some 3 ∨ x.lv.es = []
  z : x.lv.z = true → x.lv.es = []
  es : ∀ r ∈ x.lv.es, XR r

/-! ### few -/
def headL (l : LV) : LV := ⟨l.sh, l.z, .no, l.es.take 4000⟩
theorem index_lv' {l : LV} {k : Nat} {kk : IntKind} (h : l.sh = some 3 ∨ l.es = []) (hk : k < l.es.length) : indexAddrA (some 3) l.av (.int kk k) = some (.vptr (l.es[k].av).cells) := by
  have hs : l.sh = some 3 := h.resolve_right (fun e => by rw [e] at hk; simp at hk)
  simp [LV.av, indexAddrA, hs, hk]
theorem W13_3 {x : MV} (hx : XM x) (x1 : AV) (K : Ex → St → Option (AV × Mem)) : ∀ (j i : Nat) (m : Mem) (l : LV), i + j = (headL x.lv).es.length → m[0]? = some (cM x) → m[1]? = some (cM zM) → m[2]? = some (cM ⟨x.rows, x.cols, l⟩) → RowAt m l → l.es = ((headL x.lv).es.take i).map cutR →
    ∃ m' l', m'[0]? = some (cM x) ∧ m'[1]? = some (cM zM) ∧ m'[2]? = some (cM ⟨x.rows, x.cols, l'⟩) ∧ RowAt m' l' ∧ l'.es = (headL x.lv).es.map cutR ∧
      L13_3 x1 (.ptr 0 0) (.ptr 1 0) (.ptr 2 0) (headL x.lv).av (.int .i64 (headL x.lv).es.length) (.int .i64 i) m K = K (.exit 0) (O13_3 x1 (.ptr 0 0) (.ptr 1 0) (.ptr 2 0) m') := by
  have hlen : (headL x.lv).es.length ≤ 4000 := by
    show (x.lv.es.take 4000).length ≤ 4000
    rw [List.length_take]; omega
  have hsh : (headL x.lv).sh = some 3 ∨ (headL x.lv).es = [] := by
    rcases hx.sh with h | h
    · exact .inl h
    · right; show x.lv.es.take 4000 = []; rw [h]; rfl
  intro j
  induction j with
  | zero =>
    intro i m l hi h0 h1 h2 h3 h4
    refine ⟨m, l, h0, h1, h2, h3, by rw [h4, List.take_of_length_le (by omega)], ?_⟩
    rw [L13_3_eq, n_lss, Option.bind_some, ifA_dec, if_neg (by omega)]
  | succ j ih =>
    intro i m l hi h0 h1 h2 h3 h4
    have hil : i < (headL x.lv).es.length := by omega
    have hmem : (headL x.lv).es[i] ∈ x.lv.es := List.mem_of_mem_take (List.getElem_mem hil)
    have hr := hx.es _ hmem
    have hn1 : (headL x.lv).es[i].num.fr = (headL x.lv).es[i].num := congrArg RV.num hr.fr
    have hn2 : (headL x.lv).es[i].den.fr = (headL x.lv).es[i].den := congrArg RV.den hr.fr
    have kp := Kp.app m [cR (headL x.lv).es[i]]
    have hb := kp.2 2 true _ h2
    have hll : l.es.length < 5000 := by rw [h4]; simp; omega
    obtain ⟨l', m1, m2, p1, p2, p3, p4, p5, p6⟩ := push (r := cutR (headL x.lv).es[i]) hb (h3.app [cR (headL x.lv).es[i]]) hll
    have kq := kp.trans (Kp.app (m ++ [cR (headL x.lv).es[i]]) [some .resv])
    obtain ⟨m', l'', q0, q1, q2, q3, q4, q5⟩ := ih (i + 1) m2 l' (by omega) (p6.2 0 true _ (by omega) (kp.2 0 true _ h0)) (p6.2 1 true _ (by omega) (kp.2 1 true _ h1)) p4 p5 (by
      rw [p2]
      show l.es ++ _ = _
      rw [h4, List.take_succ_eq_append_getElem hil, List.map_append]; rfl)
    refine ⟨m', l'', q0, q1, q2, q3, q4, ?_⟩
    have g2 := kq.2 2 true _ h2
    have gr : ((m ++ [cR (headL x.lv).es[i]]) ++ [some Ent.resv])[m.length]? = some (cR (headL x.lv).es[i]) := by
      rw [List.getElem?_append_left (by simp)]; exact get_last
    have pcNI : ∀ (mm : Mem) (d : Option Nat) (g : Nat) (y : NV) (n : Int), pcall (AP cfg) d mm g [y.av, .int .i64 n] = (AP cfg g [y.fr.av, .int .i64 n]).map fun v => (v, mm) := fun mm d g y n => pcall2 (fz_nv y) (fz_int _ _)
    have hbld := bld012 (headL x.lv).es[i].neg (cutN (headL x.lv).es[i].num) (cutN (headL x.lv).es[i].den)
    rw [nil_av.symm] at hbld
    have hbs := build_row (cutR_fr (headL x.lv).es[i])
    rw [L13_3_eq, n_lss, Option.bind_some, ifA_dec, if_pos hil, index_lv' hsh hil, Option.bind_some, load_row, Option.bind_some, new_z', new_r, st_last, Option.bind_some, fld2, Option.bind_some]
    rw [res1] at p1 ⊢
    rw [mld2 g2, Option.bind_some, fld0, Option.bind_some, rld0 gr, Option.bind_some, fld1, Option.bind_some, rld1 gr, Option.bind_some, pcNI, hn1, V32, Option.map_some, Option.bind_some, fld2, Option.bind_some, rld2 gr, Option.bind_some, pcNI, hn2, V32, Option.map_some, Option.bind_some, hbld, Option.bind_some]
    rw [show RV.av ⟨(headL x.lv).es[i].neg, cutN (headL x.lv).es[i].num, cutN (headL x.lv).es[i].den⟩ = (cutR (headL x.lv).es[i]).av from rfl, hbs, Option.bind_some, p1, Option.bind_some, Option.bind_some, p3, Option.bind_some, i_add1 (by omega), Option.bind_some]
    exact q5
theorem slice_head (l : LV) (hs : l.sh = some 3 ∨ l.es = []) : sliceT (some 3) l.av none (some (.int .i64 (min l.es.length 4000 : Nat))) none = some (headL l).av := by
  have e1 : (l.es.map RV.av).take (min l.es.length 4000) = (l.es.take 4000).map RV.av := by
    rw [← List.map_take]
    congr 1
    by_cases h : l.es.length ≤ 4000
    · rw [Nat.min_eq_left h, List.take_of_length_le (Nat.le_refl _), List.take_of_length_le h]
    · rw [Nat.min_eq_right (by omega)]
  have e2 : l.sh = some 3 ∨ l.es.map RV.av = [] := hs.elim .inl (fun h => .inr (by rw [h]; rfl))
  have e3 : (0 : Int) ≤ (min l.es.length 4000 : Nat) := by omega
  have e4 : ((min l.es.length 4000 : Nat) : Int) ≤ (l.es.map RV.av).length := by rw [List.length_map]; omega
  simp only [sliceT, LV.av, if_pos e2, sliceA, boundA, e3, e4, and_self, if_true, Option.bind_some, Int.toNat_natCast, e1, List.drop_zero, headL]
/-- Cut for matrices of at most 60 rows: the numbers are short, and so is the row. -/
theorem V13_60 {x : MV} (hx : XM x) (hfx : x.fr = x) : ∃ y : MV, AP cfg 13 [x.av, .int .i64 60] = some y.av ∧ LOk 3 y.lv ∧ y.lv.es.length ≤ 4000 ∧ y.fr = y := by
  obtain ⟨m', l', q0, q1, q2, q3, q4, q5⟩ := W13_3 hx (.int .i64 60) (K13_3 (finK cfg.P f13.results.toList)) (headL x.lv).es.length 0 [cM x, cM zM, cM ⟨x.rows, x.cols, nilL⟩] nilL (by omega) rfl rfl rfl (.inl rfl) rfl
  have hlen : l'.es.length ≤ 4000 := by
    rw [q4, List.length_map]
    show (x.lv.es.take 4000).length ≤ 4000
    rw [List.length_take]; omega
  have hlo : LOk 3 l' := rowAt_lok q3 (by rw [q4]; intro r hr; obtain ⟨r', _, rfl⟩ := List.mem_map.1 hr; exact cutR_fr _) (by rw [q4]; intro r hr; obtain ⟨r', h', rfl⟩ := List.mem_map.1 hr; exact cutR_ok (hx.es r' (List.mem_of_mem_take h')))
  have hl1 : 1 < m'.length := by
    apply Classical.byContradiction
    intro hc
    rw [List.getElem?_eq_none (by omega)] at q1
    cases q1
  have e1 := V21 (x := (MV.mk x.rows x.cols l').fr) hlo.fr' (k := 3) (by omega) (by show l'.es.length < _; omega)
  have hrf : rightM (MV.mk x.rows x.cols l').fr = rightM ⟨x.rows, x.cols, l'⟩ := rfl
  rw [hrf] at e1
  refine ⟨⟨x.rows, x.cols, l'.fr⟩, AP_ofz _ _ (fz_mv ⟨x.rows, x.cols, l'⟩) (noV_mv _) (m := m'.set 1 (cM ⟨x.rows, x.cols, l'⟩)) ?_, hlo.fr', hlen, by simp only [MV.fr, rowAt_fr q3]⟩
  have a1 : ([cM x, cM zM] : Mem)[0]? = some (cM x) := rfl
  have a2 : ([cM x, cM zM, cM zM] : Mem)[2]? = some (cM zM) := rfl
  have a3 : ([cM x, cM zM, cM ⟨x.rows, x.cols, nilL⟩] : Mem)[0]? = some (cM x) := rfl
  have hmin : maxA false (.int .i64 x.lv.es.length) (.int .i64 4000) = some (.int .i64 (min x.lv.es.length 4000 : Nat)) := min_int _ 4000
  have fin : ((loadA (some 3) m' (.ptr 2 0)).bind fun v4 => (storeA (some 3) m' (.ptr 1 0) v4).bind fun m5 => (loadA (some 3) m5 (.ptr 1 0)).bind fun v6 => some (v6, m5)) = some (MV.av ⟨x.rows, x.cols, l'⟩, m'.set 1 (cM ⟨x.rows, x.cols, l'⟩)) := by
    rw [mldA q2, Option.bind_some, mstA q1, Option.bind_some, mldA (by rw [List.getElem?_set_self hl1])]
    rfl
  rw [T13]
  simp only [Option.bind_some, box_mv, new_m, new_r, fld0, fld1, fld2, List.length_nil, List.nil_append, List.length_cons, List.cons_append, Nat.zero_add, Nat.reduceAdd]
  rw [mld0 a1, Option.bind_some, mld1 a1, Option.bind_some, bldM01, Option.bind_some, mstA a2, Option.bind_some]
  simp only [List.set_cons_succ, List.set_cons_zero]
  rw [mld2 a3, Option.bind_some, Option.bind_some, len_lv, Option.bind_some, hmin, Option.bind_some, slice_head _ hx.sh, Option.bind_some, len_lv, Option.bind_some]
  refine Eq.trans ?_ (q5.trans ?_)
  · rfl
  rw [K13_3_x0, mldA q2, Option.bind_some, pcM, e1, Option.map_some, Option.bind_some, not_b, Option.bind_some]
  cases hb : rightM ⟨x.rows, x.cols, l'⟩ with
  | false =>
    rw [Bool.not_false, ifA_true]
    exact fin
  | true =>
    have hsz : sizeB ⟨x.rows, x.cols, l'⟩ = true := by unfold rightM at hb; rw [Bool.and_eq_true] at hb; exact hb.1
    unfold sizeB at hsz
    obtain ⟨z1, z2, z3, z4, z5⟩ := of_decide_eq_true hsz
    rw [Bool.not_true, ifA_false, fld0, Option.bind_some, mld0 q0, Option.bind_some, binA_leq, Option.bind_some, ifA_dec, if_pos z2, fld1, Option.bind_some, mld1 q0, Option.bind_some, binA_leq, Option.bind_some, ifA_dec, if_pos z4]
    exact fin
end Go.Ab
