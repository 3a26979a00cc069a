/- Matrices as they stand in memory. -/
import Derived.Test.YtlapgjmmlbnehaaAYtR1
set_option linter.unusedVariables false
set_option linter.unusedSimpArgs false
set_option maxRecDepth 100000
namespace Go.Ab

/-- A row of fractions. -/
structure LV where
  sh : Sh
  z : Bool
  o : Own
  es : List RV
def LV.av (l : LV) : AV := .lst l.sh l.z l.o (l.es.map RV.av)
def LV.fr (l : LV) : LV := ⟨l.sh, l.z, l.o.fr, l.es⟩
structure LOk (k : Nat) (l : LV) : Prop where
  sh : l.sh = some 3 ∨ l.es = []
  z : l.z = true → l.es = []
  fr : ∀ r ∈ l.es, r.fr = r
  ok : ∀ r ∈ l.es, ROk k r
structure MV where
  rows : Int
  cols : Int
  lv : LV
def MV.av (x : MV) : AV := .agg [.int .i64 x.rows, .int .i64 x.cols, x.lv.av]
def MV.fr (x : MV) : MV := ⟨x.rows, x.cols, x.lv.fr⟩
theorem LOk.fr' {k : Nat} {l : LV} (h : LOk k l) : LOk k l.fr := ⟨h.sh, h.z, h.fr, h.ok⟩
theorem LOk.mono {k k' : Nat} {l : LV} (h : LOk k l) (hk : k ≤ k') : LOk k' l := ⟨h.sh, h.z, h.fr, fun r hr => (h.ok r hr).mono hk⟩
theorem fz_mv (x : MV) : Fz x.av x.fr.av := by
  intro m
  have e : frz m fuelF x.av = (mapF (frz m 8) [.int .i64 x.rows, .int .i64 x.cols, x.lv.av]).map fun r => (.agg r.1, r.2) := rfl
  rw [e]
  simp [mapF, fza_int .i64 x.rows m 7, fza_int .i64 x.cols m 7, fza_lst x.lv.sh x.lv.z x.lv.o (x.lv.es.map RV.av) m 7, MV.fr, MV.av, LV.fr, LV.av]
theorem fz_lv (x : LV) : Fz x.av x.fr.av := fun m => fza_lst x.sh x.z x.o (x.es.map RV.av) m 8
theorem noV_mv (x : MV) : noV x.av = true := rfl
theorem frz_mv (m : Mem) (x : MV) : frz m 8 x.av = some (x.fr.av, []) := by
  have e : frz m 8 x.av = (mapF (frz m 7) [.int .i64 x.rows, .int .i64 x.cols, x.lv.av]).map fun r => (.agg r.1, r.2) := rfl
  rw [e]
  simp [mapF, fza_int .i64 x.rows m 6, fza_int .i64 x.cols m 6, fza_lst x.lv.sh x.lv.z x.lv.o (x.lv.es.map RV.av) m 6, MV.fr, MV.av, LV.fr, LV.av]
theorem fz_tupM2 (r : MV) {b b' : AV} (hb : ∀ m k, frz m (k + 1) b = some (b', [])) : Fz (.tup [r.av, b]) (.tup [r.fr.av, b']) := by
  intro m
  show (mapF (frz m 8) [r.av, b]).map _ = _
  simp [mapF, frz_mv, hb m 7]
theorem len_lv (l : LV) : lenA false l.av = some (.int .i64 l.es.length) := by simp [LV.av, lenA]
theorem index_lv {l : LV} {k k' : Nat} {kk : IntKind} (h : LOk k' l) (hk : k < l.es.length) : indexAddrA (some 3) l.av (.int kk k) = some (.vptr (l.es[k].av).cells) := by
  have hs : l.sh = some 3 := h.sh.resolve_right (fun e => by rw [e] at hk; simp at hk)
  simp [LV.av, indexAddrA, hs, hk]
theorem load_row (m : Mem) (r : RV) : loadA (some 3) m (.vptr r.av.cells) = some r.av := rfl
theorem build_row {r : RV} (h : r.fr = r) : buildSliceA (some 3) [r.av] = some (.lst (some 3) false .full [r.av]) := by
  obtain ⟨n, ⟨z1, o1, d1⟩, ⟨z2, o2, d2⟩⟩ := r
  simp only [RV.fr, NV.fr, RV.mk.injEq, NV.mk.injEq, true_and, and_true] at h
  cases o1 <;> cases o2 <;> simp [Own.fr] at h <;> rfl

/-! ### Boxes and rows in memory -/
def cM (x : MV) : Option Ent := some (.obj true [.int .i64 x.rows, .int .i64 x.cols, x.lv.av])
def nilL : LV := ⟨none, true, .full, []⟩
def zM : MV := ⟨0, 0, nilL⟩
theorem box_mv (m : Mem) (x : MV) : boxA none (some 3) m x.av = some (.ptr m.length 0, m ++ [cM x]) := rfl
theorem new_m (m : Mem) : newAt none m (.obj true [.int .i64 0, .int .i64 0, .lst none true .full []]) = (m.length, m ++ [cM zM]) := rfl
theorem mget {m : Mem} {n : Nat} {e : Ent} (h : m[n]? = some (some e)) : m.get n = some e := by simp [Mem.get, h]
theorem mobj {m : Mem} {n : Nat} {bx : Bool} {cs : List AV} (h : m[n]? = some (some (.obj bx cs))) : m.obj? n = some (bx, cs) := by simp [Mem.obj?, Mem.get, h]
theorem mld0 {m : Mem} {n : Nat} {x : MV} (h : m[n]? = some (cM x)) : loadA none m (.ptr n 0) = some (.int .i64 x.rows) := by
  simp [loadA, mobj h, cutSh]
theorem mld1 {m : Mem} {n : Nat} {x : MV} (h : m[n]? = some (cM x)) : loadA none m (.ptr n 1) = some (.int .i64 x.cols) := by
  simp [loadA, mobj h, cutSh]
theorem mld2 {m : Mem} {n : Nat} {x : MV} (h : m[n]? = some (cM x)) : loadA none m (.ptr n 2) = some x.lv.av := by
  simp [loadA, mobj h, cutSh]
theorem mldA {m : Mem} {n : Nat} {x : MV} (h : m[n]? = some (cM x)) : loadA (some 3) m (.ptr n 0) = some x.av := by
  simp [loadA, mobj h, cutSh, MV.av]
theorem mstA {m : Mem} {n : Nat} {x y : MV} (h : m[n]? = some (cM x)) : storeA (some 3) m (.ptr n 0) y.av = some (m.set n (cM y)) := by
  simp only [storeA, mobj h, Option.bind_some]
  rfl
theorem mst2 {m : Mem} {n : Nat} {x : MV} {l : LV} (h : m[n]? = some (cM x)) : storeA none m (.ptr n 2) l.av = some (m.set n (cM ⟨x.rows, x.cols, l⟩)) := by
  simp only [storeA, mobj h, Option.bind_some]
  rfl
theorem rldA {m : Mem} {n : Nat} {x : RV} (h : m[n]? = some (cR x)) : loadA (some 3) m (.ptr n 0) = some x.av := by
  simp [loadA, mobj h, cutSh, RV.av]
theorem rld0 {m : Mem} {n : Nat} {x : RV} (h : m[n]? = some (cR x)) : loadA none m (.ptr n 0) = some (.bool x.neg) := by simp [loadA, mobj h, cutSh]
theorem rld1 {m : Mem} {n : Nat} {x : RV} (h : m[n]? = some (cR x)) : loadA none m (.ptr n 1) = some x.num.av := by simp [loadA, mobj h, cutSh]
theorem rld2 {m : Mem} {n : Nat} {x : RV} (h : m[n]? = some (cR x)) : loadA none m (.ptr n 2) = some x.den.av := by simp [loadA, mobj h, cutSh]
theorem rstA {m : Mem} {n : Nat} {x y : RV} (h : m[n]? = some (cR x)) : storeA (some 3) m (.ptr n 0) y.av = some (m.set n (cR y)) := by
  simp only [storeA, mobj h, Option.bind_some]
  rfl
/-- Boxes stay. -/
def Kp (m m' : Mem) : Prop := m.length ≤ m'.length ∧ ∀ (n : Nat) (bx : Bool) (cs : List AV), m[n]? = some (some (Ent.obj bx cs)) → m'[n]? = some (some (Ent.obj bx cs))
theorem Kp.refl (m : Mem) : Kp m m := ⟨Nat.le_refl _, fun _ _ _ h => h⟩
theorem Kp.trans {a b c : Mem} (h : Kp a b) (k : Kp b c) : Kp a c := ⟨Nat.le_trans h.1 k.1, fun n bx cs hh => k.2 n bx cs (h.2 n bx cs hh)⟩
theorem Kp.app (m e : Mem) : Kp m (m ++ e) := ⟨by simp, fun n bx cs h => by
  have hn : n < m.length := by
    apply Classical.byContradiction
    intro hc
    rw [List.getElem?_eq_none (by omega)] at h
    cases h
  rw [List.getElem?_append_left hn]; exact h⟩
/-- A row that grows, and where it is kept. -/
def RowAt (m : Mem) (l : LV) : Prop := (l = nilL) ∨ (l.sh = some 3 ∧ l.z = false ∧ l.es ≠ [] ∧ ∃ nm, l.o = .tok nm 43 ∧ m[nm]? = some (some (.tok l.es.length 3)))
theorem RowAt.app {m : Mem} {l : LV} (h : RowAt m l) (e : Mem) : RowAt (m ++ e) l := by
  rcases h with h | ⟨h1, h2, h3, nm, h4, h5⟩
  · exact .inl h
  · refine .inr ⟨h1, h2, h3, nm, h4, ?_⟩
    have hn : nm < m.length := by
      apply Classical.byContradiction
      intro hc
      rw [List.getElem?_eq_none (by omega)] at h5
      cases h5
    rw [List.getElem?_append_left hn]; exact h5
theorem RowAt.set {m : Mem} {l : LV} (h : RowAt m l) {n : Nat} {bx : Bool} {cs : List AV} (hn : m[n]? = some (some (.obj bx cs))) (e : Option Ent) : RowAt (m.set n e) l := by
  rcases h with h | ⟨h1, h2, h3, nm, h4, h5⟩
  · exact .inl h
  · refine .inr ⟨h1, h2, h3, nm, h4, ?_⟩
    have hne : n ≠ nm := fun e => by rw [e, h5] at hn; cases hn
    rw [List.getElem?_set_ne hne]; exact h5
theorem app_mat {m : Mem} {l : LV} {k : Nat} {r : RV} (h : RowAt m l) (hk : m[k]? = some (some .resv)) (hlen : (l.es.length + 1) * 56 ≤ roomA) :
    ∃ l' m', appA (some k) false 43 (some 3) 56 m l.av (.lst (some 3) false .full [r.av]) = some (l'.av, m') ∧ RowAt m' l' ∧ l'.es = l.es ++ [r] ∧ Kp m m' := by
  have hkl : k < m.length := by
    apply Classical.byContradiction
    intro hc
    rw [List.getElem?_eq_none (by omega)] at hk
    cases hk
  rcases h with rfl | ⟨h1, h2, h3, nm, h4, h5⟩
  · refine ⟨⟨some 3, false, .tok k 43, [r]⟩, m.set k (some (.tok 1 3)), rfl, .inr ⟨rfl, rfl, by simp, k, rfl, by rw [List.getElem?_set_self hkl]; rfl⟩, rfl, by simp, ?_⟩
    intro n bx cs hn
    have hne : k ≠ n := fun e => by rw [← e, hk] at hn; cases hn
    rw [List.getElem?_set_ne hne]; exact hn
  · have hnl : nm < m.length := by
      apply Classical.byContradiction
      intro hc
      rw [List.getElem?_eq_none (by omega)] at h5
      cases h5
    refine ⟨⟨some 3, false, .tok nm 43, l.es ++ [r]⟩, m.set nm (some (.tok (l.es.length + 1) 3)), ?_, .inr ⟨rfl, rfl, by simp, nm, rfl, by rw [List.getElem?_set_self hnl]; simp⟩, rfl, by simp, ?_⟩
    · obtain ⟨sh, z, o, es⟩ := l
      simp only at h1 h2 h4
      subst h1; subst h2; subst h4
      simp [LV.av, appA, hlen, mget h5, Sh.size]
    · intro n bx cs hn
      have hne : nm ≠ n := fun e => by rw [← e, h5] at hn; cases hn
      rw [List.getElem?_set_ne hne]; exact hn
theorem get_last {m : Mem} {e : Option Ent} : (m ++ [e])[m.length]? = some e := by simp
end Go.Ab
