/- Copies and built matrices of both matrix packages, in values. -/
import Derived.Test.YtlapgjmmlbnehaaAYtM1
set_option linter.unusedVariables false
set_option linter.unusedSimpArgs false
set_option maxRecDepth 100000
namespace Go.Ab
open Go.Proofs.Try

/-! ### A fraction that shares nothing -/
def copyR (r : RV) : RV := ⟨r.neg, rowN r.num.ds, rowN r.den.ds⟩
theorem copyR_fr (r : RV) : (copyR r).fr = copyR r := by simp only [copyR, RV.fr, rowN_fr]
theorem copyR_q (r : RV) : (copyR r).q = r.q := by simp only [copyR, RV.q, rowN_v]; rfl
theorem copyR_ok {r : RV} {k : Nat} (h : ROk k r) : ROk k (copyR r) := ⟨rowN_ok h.num.dg h.num.len, rowN_ok h.den.dg h.den.len, by simp only [copyR, rowN_ds]; exact h.ln, by simp only [copyR, rowN_ds]; exact h.ld⟩
def tkV (k : Nat) (ds : List Nat) : NV := if ds = [] then nilV else ⟨false, .tok k 116, ds⟩
theorem tkV_fr (k : Nat) (ds : List Nat) : (tkV k ds).fr = rowN ds := by unfold tkV rowN; split <;> rfl
theorem app_nilk {m : Mem} {k : Nat} {x : NV} (hk : m[k]? = some (some .resv)) (h : x.ds.length * 4 ≤ roomA) : ∃ m', appA (some k) false 116 none 4 m (.lst none true .full []) x.av = some ((tkV k x.ds).av, m') ∧ (∀ j, j ≠ k → m'[j]? = m[j]?) ∧ m'.length = m.length := by
  obtain ⟨z, o, ds⟩ := x
  cases ds with
  | nil => exact ⟨m, rfl, fun _ _ => rfl, rfl⟩
  | cons d ds =>
    have h2 : (ds.length + 1) * 4 ≤ roomA := by simpa using h
    refine ⟨m.set k (some (.tok (ds.length + 1) 1)), ?_, fun j hj => List.getElem?_set_ne (fun e => hj e.symm), by simp⟩
    simp only [tkV, NV.av, appA, List.map_cons, List.length_cons, List.length_nil, List.length_map, Nat.zero_add, h2, if_true, newAt, Sh.size, List.nil_append, reduceCtorEq, if_false, Bool.false_eq_true, or_true]
theorem V67 {r : RV} {k : Nat} (h : ROk k r) : AP cfg 67 [r.av] = some (copyR r).av := by
  have hn := h.num.len
  have hd := h.den.len
  obtain ⟨m1, a1, a2, a3⟩ := app_nilk (m := [cR r, cR zR, some .resv, some .resv]) (k := 2) (x := r.num) rfl (by simp only [roomA]; omega)
  obtain ⟨m2, b1, b2, b3⟩ := app_nilk (m := m1) (k := 3) (x := r.den) (by rw [a2 3 (by omega)]; rfl) (by simp only [roomA]; omega)
  have g1 : m2[1]? = some (cR zR) := by rw [b2 1 (by omega), a2 1 (by omega)]; rfl
  have hfr : (RV.mk r.neg (tkV 2 r.num.ds) (tkV 3 r.den.ds)).fr = copyR r := by simp only [RV.fr, tkV_fr, copyR]
  have hl : 1 < m2.length := by rw [b3, a3]; simp
  refine (AP_ofz _ _ (fz_rv ⟨r.neg, tkV 2 r.num.ds, tkV 3 r.den.ds⟩) (noV_rv _) (m := m2.set 1 (cR ⟨r.neg, tkV 2 r.num.ds, tkV 3 r.den.ds⟩)) ?_).trans (by rw [hfr])
  rw [T67]
  simp only [Option.bind_some, box_rv, new_z', new_r, fld0, fld1, fld2, res2, List.length_nil, List.nil_append, List.length_cons, List.cons_append, Nat.zero_add, ld0neg, ld0num, ld0den, Nat.reduceAdd]
  rw [a1]
  simp only [Option.bind_some]
  rw [b1]
  simp only [Option.bind_some, nil_av, bld012]
  rw [rstA g1, Option.bind_some, rldA (by rw [List.getElem?_set_self hl])]
  rfl

/-! ### A row grows -/
/-- All boxes but one stay. -/
def Kn (n : Nat) (m m' : Mem) : Prop := m.length ≤ m'.length ∧ ∀ (p : Nat) (bx : Bool) (cs : List AV), p ≠ n → m[p]? = some (some (Ent.obj bx cs)) → m'[p]? = some (some (Ent.obj bx cs))
theorem Kn.trans {n : Nat} {a b c : Mem} (h : Kn n a b) (k : Kn n b c) : Kn n a c := ⟨Nat.le_trans h.1 k.1, fun p bx cs hp hh => k.2 p bx cs hp (h.2 p bx cs hp hh)⟩
theorem push {m : Mem} {n : Nat} {y : MV} {r : RV} (hb : m[n]? = some (cM y)) (hr : RowAt m y.lv) (hlen : y.lv.es.length < 5000) :
    ∃ l' m' m'', appA (some m.length) false 43 (some 3) 56 (reserve m 1) y.lv.av (.lst (some 3) false .full [r.av]) = some (l'.av, m') ∧ l'.es = y.lv.es ++ [r] ∧ storeA none m' (.ptr n 2) l'.av = some m'' ∧ m''[n]? = some (cM ⟨y.rows, y.cols, l'⟩) ∧ RowAt m'' l' ∧ Kn n m m'' := by
  rw [res1]
  obtain ⟨l', m', h1, h2, h3, h4⟩ := app_mat (r := r) (hr.app [some .resv]) (k := m.length) get_last (by simp only [roomA]; omega)
  have hk := (Kp.app m [some .resv]).trans h4
  have hb' := hk.2 n true _ hb
  have hnl : n < m'.length := by
    apply Classical.byContradiction
    intro hc
    rw [List.getElem?_eq_none (by omega)] at hb'
    cases hb'
  refine ⟨l', m', _, h1, h3, mst2 hb', by rw [List.getElem?_set_self hnl], h2.set hb' _, ?_⟩
  refine ⟨by rw [List.length_set]; exact hk.1, fun p bx cs hp hh => ?_⟩
  rw [List.getElem?_set_ne (fun e => hp e.symm)]
  exact hk.2 p bx cs hh
theorem RowAt.mono {m m' : Mem} {l : LV} (h : RowAt m l) {r : RV} (e : m' = m ++ [cR r]) : RowAt m' l := e ▸ h.app _
theorem rowAt_lok {m : Mem} {l : LV} {k : Nat} (h : RowAt m l) (hf : ∀ r ∈ l.es, r.fr = r) (ho : ∀ r ∈ l.es, ROk k r) : LOk k l := by
  rcases h with rfl | ⟨h1, h2, h3, _⟩
  · exact ⟨.inr rfl, fun _ => rfl, hf, ho⟩
  · exact ⟨.inl h1, fun hz => absurd (h2.symm.trans hz) (by decide), hf, ho⟩
/-- What a function hands out that has built a row. -/
theorem rowAt_fr {m : Mem} {l : LV} (h : RowAt m l) : l.fr.fr = l.fr := by
  rcases h with rfl | ⟨h1, h2, h3, nm, h4, _⟩
  · rfl
  · obtain ⟨sh, z, o, es⟩ := l
    simp only at h4
    subst h4
    rfl
theorem bldM01 (a b : Int) : buildA (.agg [.int .i64 0, .int .i64 0, .lst none true .full []]) [(0, none, .int .i64 a), (1, none, .int .i64 b)] = some (MV.av ⟨a, b, nilL⟩) := rfl
theorem bldM012 (a b : Int) (l : LV) : buildA (.agg [.int .i64 0, .int .i64 0, .lst none true .full []]) [(0, none, .int .i64 a), (1, none, .int .i64 b), (2, none, l.av)] = some (MV.av ⟨a, b, l⟩) := rfl
theorem bldM : buildA (.agg [.int .i64 0, .int .i64 0, .lst none true .full []]) [] = some zM.av := rfl

/-! ### clone -/
theorem W56 {x : MV} {k : Nat} (hx : LOk k x.lv) (hlen : x.lv.es.length < 4500) (K : Ex → St → Option (AV × Mem)) : ∀ (j i : Nat) (m : Mem) (l : LV), i + j = x.lv.es.length → m[1]? = some (cM zM) → m[2]? = some (cM ⟨x.rows, x.cols, l⟩) → RowAt m l → l.es = (x.lv.es.take i).map copyR →
    ∃ m' l', m'[1]? = some (cM zM) ∧ m'[2]? = some (cM ⟨x.rows, x.cols, l'⟩) ∧ RowAt m' l' ∧ l'.es = x.lv.es.map copyR ∧ L56_3 (.ptr 1 0) (.ptr 2 0) x.lv.av (.int .i64 x.lv.es.length) (.int .i64 i) m K = K (.exit 0) (O56_3 (.ptr 1 0) (.ptr 2 0) m') := by
  intro j
  induction j with
  | zero =>
    intro i m l hi h1 h2 h3 h4
    refine ⟨m, l, h1, h2, h3, by rw [h4, List.take_of_length_le (by omega)], ?_⟩
    rw [L56_3_eq, n_lss, Option.bind_some, ifA_dec, if_neg (by omega)]
  | succ j ih =>
    intro i m l hi h1 h2 h3 h4
    have hil : i < x.lv.es.length := by omega
    have hr := hx.ok x.lv.es[i] (List.getElem_mem hil)
    have hf := hx.fr x.lv.es[i] (List.getElem_mem hil)
    have kp := Kp.app m [cR x.lv.es[i]]
    have hb := kp.2 2 true _ h2
    have hll : l.es.length < 5000 := by rw [h4]; simp; omega
    obtain ⟨l', m1, m2, p1, p2, p3, p4, p5, p6⟩ := push (r := copyR x.lv.es[i]) hb (h3.app [cR x.lv.es[i]]) hll
    have kq := kp.trans (Kp.app (m ++ [cR x.lv.es[i]]) [some .resv])
    obtain ⟨m', l'', q1, q2, q3, q4, q5⟩ := ih (i + 1) m2 l' (by omega) (p6.2 1 true _ (by omega) (kp.2 1 true _ h1)) p4 p5 (by
      rw [p2]
      show l.es ++ _ = _
      rw [h4, List.take_succ_eq_append_getElem hil, List.map_append]; rfl)
    refine ⟨m', l'', q1, q2, q3, q4, ?_⟩
    have g2 := kq.2 2 true _ h2
    have gr : ((m ++ [cR x.lv.es[i]]) ++ [some Ent.resv])[m.length]? = some (cR x.lv.es[i]) := by
      rw [List.getElem?_append_left (by simp)]; exact get_last
    rw [L56_3_eq, n_lss, Option.bind_some, ifA_dec, if_pos hil, index_lv hx hil, Option.bind_some, load_row, Option.bind_some, new_z', new_r, st_last, Option.bind_some, fld2, Option.bind_some]
    rw [res1] at p1 ⊢
    rw [mld2 g2, Option.bind_some, rldA gr, Option.bind_some, pcR, hf, V67 hr, Option.map_some, Option.bind_some, build_row (copyR_fr _), Option.bind_some, p1, Option.bind_some, Option.bind_some, p3, Option.bind_some, i_add1 (by omega), Option.bind_some]
    exact q5
theorem V56 {x : MV} {k : Nat} (hx : LOk k x.lv) (hlen : x.lv.es.length < 4500) : ∃ y : MV, AP cfg 56 [x.av] = some y.av ∧ y.rows = x.rows ∧ y.cols = x.cols ∧ y.lv.es = x.lv.es.map copyR ∧ LOk k y.lv ∧ y.fr = y := by
  obtain ⟨m', l', q1, q2, q3, q4, q5⟩ := W56 hx hlen (K56_3 (finK cfg.P f56.results.toList)) x.lv.es.length 0 [cM x, cM zM, cM ⟨x.rows, x.cols, nilL⟩] nilL (by omega) rfl rfl (.inl rfl) rfl
  have hl1 : 1 < m'.length := by
    apply Classical.byContradiction
    intro hc
    rw [List.getElem?_eq_none (by omega)] at q1
    cases q1
  have hlo : LOk k l' := rowAt_lok q3 (by rw [q4]; intro r hr; obtain ⟨r', _, rfl⟩ := List.mem_map.1 hr; exact copyR_fr _) (by rw [q4]; intro r hr; obtain ⟨r', h', rfl⟩ := List.mem_map.1 hr; exact copyR_ok (hx.ok r' h'))
  refine ⟨⟨x.rows, x.cols, l'.fr⟩, AP_ofz _ _ (fz_mv ⟨x.rows, x.cols, l'⟩) (noV_mv _) (m := m'.set 1 (cM ⟨x.rows, x.cols, l'⟩)) ?_, rfl, rfl, q4, hlo.fr', by simp only [MV.fr, rowAt_fr q3]⟩
  have g0 : ([cM x] : Mem)[0]? = some (cM x) := rfl
  have e1 : ([cM x, cM zM] : Mem)[0]? = some (cM x) := rfl
  have e2 : ([cM x, cM zM, cM zM] : Mem)[2]? = some (cM zM) := rfl
  have e3 : ([cM x, cM zM, cM ⟨x.rows, x.cols, nilL⟩] : Mem)[0]? = some (cM x) := rfl
  rw [T56]
  simp only [Option.bind_some, box_mv, new_m, new_r, fld0, fld1, fld2, List.length_nil, List.nil_append, List.length_cons, List.cons_append, Nat.zero_add, Nat.reduceAdd]
  rw [mld0 e1, Option.bind_some, mld1 e1, Option.bind_some, bldM01, Option.bind_some, mstA e2, Option.bind_some]
  simp only [List.set_cons_succ, List.set_cons_zero]
  rw [mld2 e3, Option.bind_some, len_lv, Option.bind_some]
  refine q5.trans ?_
  rw [K56_3_x0, mldA q2, Option.bind_some, mstA q1, Option.bind_some, mldA (by rw [List.getElem?_set_self hl1])]
  rfl

/-! ### Make -/
theorem V14 {a b : Int} {l : LV} {k : Nat} (hk : k < 2 ^ 38) (hx : LOk k l) (hlen : l.es.length < 4500) : ∃ y : MV, ∃ e : Int, AP cfg 14 [.int .i64 a, .int .i64 b, l.av] = some (.tup [y.av, .int .i64 e]) ∧ y.fr = y ∧ LOk k y.lv ∧
    ((rightM ⟨a, b, l⟩ = true ∧ e = 0 ∧ y.rows = a ∧ y.cols = b ∧ y.lv.es = l.es.map copyR) ∨ (rightM ⟨a, b, l⟩ = false ∧ e = 1 ∧ y = zM)) := by
  have e1 := V20 (x := (MV.mk a b l).fr) hx.fr' (k := k) hk (by show l.es.length < _; omega)
  have hrf : rightM (MV.mk a b l).fr = rightM ⟨a, b, l⟩ := rfl
  rw [hrf] at e1
  have s1 : ([cM zM, cM zM] : Mem)[1]? = some (cM zM) := rfl
  have s2 : ([cM zM, cM ⟨a, b, l⟩] : Mem)[1]? = some (cM ⟨a, b, l⟩) := rfl
  have s0 : ([cM zM, cM ⟨a, b, l⟩] : Mem)[0]? = some (cM zM) := rfl
  have pcM : ∀ (m : Mem) (d : Option Nat) (g : Nat) (x : MV), pcall (AP cfg) d m g [x.av] = (AP cfg g [x.fr.av]).map fun v => (v, m) := fun m d g x => pcall1 (fz_mv x)
  cases hb : rightM ⟨a, b, l⟩ with
  | false =>
    rw [hb] at e1
    refine ⟨zM, 1, AP_ofz _ _ (fz_tupM2 zM (fza_int _ _)) rfl (m := [cM zM, cM ⟨a, b, l⟩]) ?_, rfl, ⟨.inr rfl, fun _ => rfl, by simp [zM, nilL], by simp [zM, nilL]⟩, .inr ⟨rfl, rfl, rfl⟩⟩
    rw [T14]
    simp only [Option.bind_some, new_m, new_r, bldM012, List.length_nil, List.nil_append, List.length_cons, List.cons_append, Nat.zero_add]
    rw [mstA s1, Option.bind_some]
    simp only [List.set_cons_succ, List.set_cons_zero]
    rw [mldA s2, Option.bind_some, pcM, e1, Option.map_some, Option.bind_some, not_b, Option.bind_some, Bool.not_false, ifA_true, bldM, Option.bind_some, mstA s0, Option.bind_some]
    simp only [List.set_cons_zero]
    rw [mldA (x := zM) rfl]
    rfl
  | true =>
    rw [hb] at e1
    obtain ⟨y, f1, f2, f3, f4, f5, f6⟩ := V56 (x := (MV.mk a b l).fr) hx.fr' (by show l.es.length < _; omega)
    refine ⟨y, 0, (AP_ofz _ _ (fz_tupM2 y (fza_int _ _)) rfl (m := [cM y, cM ⟨a, b, l⟩]) ?_).trans (by rw [f6]), f6, f5, .inl ⟨rfl, rfl, f2, f3, f4⟩⟩
    rw [T14]
    simp only [Option.bind_some, new_m, new_r, bldM012, List.length_nil, List.nil_append, List.length_cons, List.cons_append, Nat.zero_add]
    rw [mstA s1, Option.bind_some]
    simp only [List.set_cons_succ, List.set_cons_zero]
    rw [mldA s2, Option.bind_some, pcM, e1, Option.map_some, Option.bind_some, not_b, Option.bind_some, Bool.not_true, ifA_false, mldA s2, Option.bind_some, pcM, f1, Option.map_some, Option.bind_some, mstA s0, Option.bind_some]
    simp only [List.set_cons_zero]
    rw [mldA (x := y) rfl]
    rfl
end Go.Ab
