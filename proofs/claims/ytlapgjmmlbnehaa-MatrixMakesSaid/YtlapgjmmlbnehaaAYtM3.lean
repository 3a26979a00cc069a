/- Matrices whose cells a function tells. -/
import Derived.Test.YtlapgjmmlbnehaaAYtM2
import Derived.Test.YtlapgjmmlbnehaaAYtMc
set_option linter.unusedVariables false
set_option linter.unusedSimpArgs false
set_option maxRecDepth 100000
namespace Go.Ab
open Go.Proofs.Try

theorem pcM {m : Mem} {d : Option Nat} {g : Nat} (x : MV) : pcall (AP cfg) d m g [x.av] = (AP cfg g [x.fr.av]).map fun v => (v, m) := pcall1 (fz_mv x)
theorem pcII {m : Mem} {d : Option Nat} {g : Nat} (k k' : IntKind) (a b : Int) : pcall (AP cfg) d m g [.int k a, .int k' b] = (AP cfg g [.int k a, .int k' b]).map fun v => (v, m) := pcall2 (fz_int k a) (fz_int k' b)

/-! ### sized -/
def sizeE (a b : Int) : Int := if a < 0 ∨ b < 0 then 1 else if a > 60 ∨ b > 60 then 2 else 0
theorem V57 (a b : Int) : AP cfg 57 [.int .i64 a, .int .i64 b] = some (.int .i64 (sizeE a b)) := by
  refine AP_ofz _ _ (fz_int _ _) rfl (m := []) ?_
  rw [T57, binA_lss, Option.bind_some, ifA_dec]
  unfold sizeE
  by_cases c1 : a < 0
  · rw [if_pos c1, if_pos (.inl c1)]
  · rw [if_neg c1, binA_lss, Option.bind_some, ifA_dec]
    by_cases c2 : b < 0
    · rw [if_pos c2, if_pos (.inr c2)]
    · rw [if_neg c2, if_neg (fun h => h.elim c1 c2), binA_gtr, Option.bind_some, ifA_dec]
      by_cases c3 : a > 60
      · rw [if_pos c3, if_pos (.inl c3)]
      · rw [if_neg c3, binA_gtr, Option.bind_some, ifA_dec]
        by_cases c4 : b > 60
        · rw [if_pos c4, if_pos (.inr c4)]
        · rw [if_neg c4, if_neg (fun h => h.elim c3 c4)]

/-! ### filled -/
def rowF (F : Nat → Nat → RV) (cols i : Nat) : List RV := (List.range cols).map (F i)
def cellsF (F : Nat → Nat → RV) (cols : Nat) : Nat → List RV
  | 0 => []
  | i + 1 => cellsF F cols i ++ rowF F cols i
theorem cellsF_length (F : Nat → Nat → RV) (cols : Nat) : ∀ i, (cellsF F cols i).length = i * cols
  | 0 => by simp [cellsF]
  | i + 1 => by simp [cellsF, rowF, cellsF_length F cols i, Nat.succ_mul]
theorem cellsF_mem {F : Nat → Nat → RV} {cols : Nat} {r : RV} : ∀ {i : Nat}, r ∈ cellsF F cols i → ∃ a b, a < i ∧ b < cols ∧ r = F a b
  | 0, h => by simp [cellsF] at h
  | i + 1, h => by
    simp only [cellsF, List.mem_append] at h
    rcases h with h | h
    · obtain ⟨a, b, h1, h2, h3⟩ := cellsF_mem h
      exact ⟨a, b, by omega, h2, h3⟩
    · simp only [rowF, List.mem_map, List.mem_range] at h
      obtain ⟨b, hb, rfl⟩ := h
      exact ⟨i, b, by omega, hb, rfl⟩
theorem callK_p {fid g : Nat} {vs : List AV} {m : Mem} {d : Option Nat} {K : AV → Mem → Option (AV × Mem)} (hi : cfg.inl fid g = false) : callK cfg fid (AP cfg) (AC cfg) d g vs m K = (pcall (AP cfg) d m g vs).bind fun r => K r.1 r.2 := by
  unfold callK
  rw [show cfg.lib g = none from rfl]
  simp only []
  rw [hi]
structure FillOk (g : Nat) (cs : List AV) (F : Nat → Nat → RV) (rows cols k : Nat) : Prop where
  inl : cfg.inl 58 g = false
  csz : ∀ m, mapF (frz m fuelF) cs = some (cs, [])
  call : ∀ i j : Nat, i < rows → j < cols → AP cfg g ([.int .i64 i, .int .i64 j] ++ cs) = some (F i j).av
  fr : ∀ i j : Nat, i < rows → j < cols → (F i j).fr = F i j
  ok : ∀ i j : Nat, i < rows → j < cols → ROk k (F i j)
theorem pc_fill {g : Nat} {cs : List AV} {F : Nat → Nat → RV} {rows cols k : Nat} (h : FillOk g cs F rows cols k) {i j : Nat} (hi : i < rows) (hj : j < cols) {m : Mem} {d : Option Nat} : pcall (AP cfg) d m g ([.int .i64 i, .int .i64 j] ++ cs) = some ((F i j).av, m) := by
  have e : mapF (frz m fuelF) ([.int .i64 i, .int .i64 j] ++ cs) = some ([.int .i64 i, .int .i64 j] ++ cs, []) := by
    have h1 := h.csz m
    have f1 : ∀ n : Int, frz m fuelF (.int .i64 n) = some (.int .i64 n, []) := fun _ => rfl
    simp [mapF, h1, f1]
  unfold pcall
  rw [e]
  have hc := h.call i j hi hj
  simp only [List.cons_append, List.nil_append] at hc
  simp [hc, kill]
theorem W58_6 {g : Nat} {cs : List AV} {F : Nat → Nat → RV} {rows cols k : Nat} (h : FillOk g cs F rows cols k) (hr : rows ≤ 60) (hc : cols ≤ 60) (K : Ex → St → Option (AV × Mem)) {i : Nat} (hi : i < rows) (x13 x14 : AV) : ∀ (j c : Nat) (m : Mem) (l : LV), c + j = cols → m[0]? = some (cM zM) → m[1]? = some (cM ⟨rows, cols, l⟩) → RowAt m l → l.es = cellsF F cols i ++ (List.range c).map (F i) →
    ∃ m' l', m'[0]? = some (cM zM) ∧ m'[1]? = some (cM ⟨rows, cols, l'⟩) ∧ RowAt m' l' ∧ l'.es = cellsF F cols (i + 1) ∧ L58_6 (.int .i64 cols) (.fn g cs) (.ptr 0 0) (.ptr 1 0) (.int .i64 i) x13 x14 (.int .i64 cols) (.int .i64 c) m K = K (.exit 2) (O58_6 (.int .i64 cols) (.fn g cs) (.ptr 0 0) (.ptr 1 0) x13 x14 m') := by
  intro j
  induction j with
  | zero =>
    intro c m l hcj h1 h2 h3 h4
    have : c = cols := by omega
    subst this
    refine ⟨m, l, h1, h2, h3, h4, ?_⟩
    rw [L58_6_eq, n_lss, Option.bind_some, ifA_dec, if_neg (by omega)]
  | succ j ih =>
    intro c m l hcj h1 h2 h3 h4
    have hcl : c < cols := by omega
    have hle : i * cols ≤ 60 * 60 := Nat.mul_le_mul (by omega) hc
    have hll : l.es.length < 5000 := by rw [h4, List.length_append, cellsF_length, List.length_map, List.length_range]; omega
    obtain ⟨l', m1, m2, p1, p2, p3, p4, p5, p6⟩ := push (r := F i c) h2 h3 hll
    obtain ⟨m', l'', q1, q2, q3, q4, q5⟩ := ih (c + 1) m2 l' (by omega) (p6.2 0 true _ (by omega) h1) p4 p5 (by
      rw [p2]
      show l.es ++ _ = _
      rw [h4, List.range_succ, List.map_append, List.append_assoc]; rfl)
    refine ⟨m', l'', q1, q2, q3, q4, ?_⟩
    have g2 := (Kp.app m [some .resv]).2 1 true _ h2
    rw [L58_6_eq, n_lss, Option.bind_some, ifA_dec, if_pos hcl, fld2, Option.bind_some]
    have hfn : fnOf (.fn g cs) = some (g, cs) := rfl
    have p1' := p1
    rw [res1] at p1' ⊢
    rw [mld2 g2, Option.bind_some, hfn, Option.bind_some, callK_p h.inl, pc_fill h hi hcl, Option.bind_some, build_row (h.fr i c hi hcl), Option.bind_some, p1', Option.bind_some, Option.bind_some, p3, Option.bind_some, i_add1 (by omega), Option.bind_some]
    exact q5
theorem W58_3 {g : Nat} {cs : List AV} {F : Nat → Nat → RV} {rows cols k : Nat} (h : FillOk g cs F rows cols k) (hr : rows ≤ 60) (hc : cols ≤ 60) (K : Ex → St → Option (AV × Mem)) : ∀ (j i : Nat) (m : Mem) (l : LV), i + j = rows → m[0]? = some (cM zM) → m[1]? = some (cM ⟨rows, cols, l⟩) → RowAt m l → l.es = cellsF F cols i →
    ∃ m' l', m'[0]? = some (cM zM) ∧ m'[1]? = some (cM ⟨rows, cols, l'⟩) ∧ RowAt m' l' ∧ l'.es = cellsF F cols rows ∧ L58_3 (.int .i64 cols) (.fn g cs) (.ptr 0 0) (.ptr 1 0) (.int .i64 rows) (.int .i64 i) m K = K (.exit 0) (O58_3 (.ptr 0 0) (.ptr 1 0) m') := by
  intro j
  induction j with
  | zero =>
    intro i m l hij h1 h2 h3 h4
    have : i = rows := by omega
    subst this
    refine ⟨m, l, h1, h2, h3, h4, ?_⟩
    rw [L58_3_eq, n_lss, Option.bind_some, ifA_dec, if_neg (by omega)]
  | succ j ih =>
    intro i m l hij h1 h2 h3 h4
    have hil : i < rows := by omega
    obtain ⟨m1, l1, a1, a2, a3, a4, a5⟩ := W58_6 h hr hc (K58_6 K) hil (.int .i64 rows) (.int .i64 i) cols 0 m l (by omega) h1 h2 h3 (by rw [h4]; simp)
    obtain ⟨m', l', q1, q2, q3, q4, q5⟩ := ih (i + 1) m1 l1 (by omega) a1 a2 a3 a4
    refine ⟨m', l', q1, q2, q3, q4, ?_⟩
    rw [L58_3_eq, n_lss, Option.bind_some, ifA_dec, if_pos hil]
    refine Eq.trans ?_ (a5.trans ?_)
    · rfl
    rw [K58_6_x2, i_add1 (by omega), Option.bind_some]
    exact q5
theorem V58 {g : Nat} {cs : List AV} {F : Nat → Nat → RV} {rows cols k : Nat} (h : FillOk g cs F rows cols k) (hr : rows ≤ 60) (hc : cols ≤ 60) : ∃ y : MV, AP cfg 58 [.int .i64 rows, .int .i64 cols, .fn g cs] = some y.av ∧ y.rows = rows ∧ y.cols = cols ∧ y.lv.es = cellsF F cols rows ∧ LOk k y.lv ∧ y.fr = y := by
  obtain ⟨m', l', q1, q2, q3, q4, q5⟩ := W58_3 h hr hc (K58_3 (finK cfg.P f58.results.toList)) rows 0 [cM zM, cM ⟨rows, cols, nilL⟩] nilL (by omega) rfl rfl (.inl rfl) rfl
  have hl1 : 0 < m'.length := by
    apply Classical.byContradiction
    intro hcc
    rw [List.getElem?_eq_none (by omega)] at q1
    cases q1
  have hlo : LOk k l' := rowAt_lok q3 (by rw [q4]; intro r hr; obtain ⟨a, b, h1, h2, rfl⟩ := cellsF_mem hr; exact h.fr a b h1 h2) (by rw [q4]; intro r hr; obtain ⟨a, b, h1, h2, rfl⟩ := cellsF_mem hr; exact h.ok a b h1 h2)
  refine ⟨⟨rows, cols, l'.fr⟩, AP_ofz _ _ (fz_mv ⟨rows, cols, l'⟩) (noV_mv _) (m := m'.set 0 (cM ⟨rows, cols, l'⟩)) ?_, rfl, rfl, q4, hlo.fr', by simp only [MV.fr, rowAt_fr q3]⟩
  have e2 : ([cM zM, cM zM] : Mem)[1]? = some (cM zM) := rfl
  rw [T58, bldM01, Option.bind_some]
  simp only [new_m, new_r, List.length_nil, List.nil_append, List.length_cons, List.cons_append, Nat.zero_add]
  rw [mstA e2, Option.bind_some]
  simp only [List.set_cons_succ, List.set_cons_zero]
  refine q5.trans ?_
  rw [K58_3_x0, mldA q2, Option.bind_some, mstA q1, Option.bind_some, mldA (by rw [List.getElem?_set_self hl1])]
  rfl

/-! ### Zero, Identity -/
theorem V59 (a b : Int) : AP cfg 59 [.int .i64 a, .int .i64 b] = some zeroR.av := by
  refine AP_ofz _ _ (fz_rv zeroR) (noV_rv _) (m := [cR zeroR]) ?_
  rw [T59]
  simp only [new_z', new_r, List.length_nil, List.nil_append]
  rw [pc0, V60, Option.map_some, Option.bind_some, rstA (x := zR) rfl, Option.bind_some]
  simp only [List.set_cons_zero]
  rw [rldA (x := zeroR) rfl]
  rfl
def unitR (a b : Nat) : RV := if a = b then oneR else zeroR
theorem unitR_fr (a b : Nat) : (unitR a b).fr = unitR a b := by unfold unitR; split <;> rfl
theorem V62 (a b : Nat) : AP cfg 62 [.int .i64 a, .int .i64 b] = some (unitR a b).av := by
  unfold unitR
  by_cases h : a = b
  · rw [if_pos h]
    refine AP_ofz _ _ (fz_rv oneR) (noV_rv _) (m := [cR oneR]) ?_
    rw [T62, n_eql, Option.bind_some, ifA_dec, if_pos h]
    simp only [new_z', new_r, List.length_nil, List.nil_append]
    rw [pc0, V84, Option.map_some, Option.bind_some, rstA (x := zR) rfl, Option.bind_some]
    simp only [List.set_cons_zero]
    rw [rldA (x := oneR) rfl]
    rfl
  · rw [if_neg h]
    refine AP_ofz _ _ (fz_rv zeroR) (noV_rv _) (m := [cR zeroR]) ?_
    rw [T62, n_eql, Option.bind_some, ifA_dec, if_neg h]
    simp only [new_z', new_r, List.length_nil, List.nil_append]
    rw [pc0, V60, Option.map_some, Option.bind_some, rstA (x := zR) rfl, Option.bind_some]
    simp only [List.set_cons_zero]
    rw [rldA (x := zeroR) rfl]
    rfl
theorem zeroR_ok : ROk 1 zeroR := can_zero.ok (Bd_zero (by omega)) (by omega)
theorem oneR_ok : ROk 1 oneR := can_one.ok (Bd_one (by omega)) (by omega)
theorem fill59 (rows cols : Nat) : FillOk 59 [] (fun _ _ => zeroR) rows cols 1 := ⟨rfl, fun _ => rfl, fun i j _ _ => V59 i j, fun _ _ _ _ => rfl, fun _ _ _ _ => zeroR_ok⟩
theorem fill62 (rows cols : Nat) : FillOk 62 [] unitR rows cols 1 := ⟨rfl, fun _ => rfl, fun i j _ _ => V62 i j, fun i j _ _ => unitR_fr i j, fun i j _ _ => by unfold unitR; split <;> first | exact oneR_ok | exact zeroR_ok⟩
theorem fz_fn0 (g : Nat) : Fz (.fn g []) (.fn g []) := fun _ => rfl
theorem zM_ok (k : Nat) : LOk k zM.lv := ⟨.inr rfl, fun _ => rfl, by simp [zM, nilL], by simp [zM, nilL]⟩
theorem V16 (a b : Int) : ∃ y : MV, AP cfg 16 [.int .i64 a, .int .i64 b] = some (.tup [y.av, .int .i64 (sizeE a b)]) ∧ y.fr = y ∧ LOk 1 y.lv ∧
    ((sizeE a b ≠ 0 ∧ y = zM) ∨ (sizeE a b = 0 ∧ y.rows = a ∧ y.cols = b ∧ y.lv.es = cellsF (fun _ _ => zeroR) b.toNat a.toNat)) := by
  by_cases h0 : sizeE a b = 0
  · have hb : 0 ≤ a ∧ a ≤ 60 ∧ 0 ≤ b ∧ b ≤ 60 := by unfold sizeE at h0; (repeat' split at h0) <;> omega
    obtain ⟨x, rfl⟩ := Int.eq_ofNat_of_zero_le hb.1
    obtain ⟨z, rfl⟩ := Int.eq_ofNat_of_zero_le hb.2.2.1
    obtain ⟨y, f1, f2, f3, f4, f5, f6⟩ := V58 (fill59 x z) (by omega) (by omega)
    refine ⟨y, (AP_ofz _ _ (fz_tupM2 y (fza_int _ _)) rfl (m := [cM y]) ?_).trans (by rw [f6]), f6, f5, .inr ⟨h0, f2, f3, f4⟩⟩
    rw [T16]
    simp only [new_m, new_r, List.length_nil, List.nil_append]
    rw [pcII, V57, Option.map_some, Option.bind_some, binA_neq, Option.bind_some, ifA_dec, if_neg (fun hn => hn h0), pcall3 (fz_int _ _) (fz_int _ _) (fz_fn0 59), f1, Option.map_some, Option.bind_some, mstA (x := zM) rfl, Option.bind_some]
    simp only [List.set_cons_zero]
    rw [mldA (x := y) rfl, h0]
    rfl
  · refine ⟨zM, AP_ofz _ _ (fz_tupM2 zM (fza_int _ _)) rfl (m := [cM zM]) ?_, rfl, zM_ok 1, .inl ⟨h0, rfl⟩⟩
    rw [T16]
    simp only [new_m, new_r, List.length_nil, List.nil_append]
    rw [pcII, V57, Option.map_some, Option.bind_some, binA_neq, Option.bind_some, ifA_dec, if_pos h0, bldM, Option.bind_some, mstA (x := zM) rfl, Option.bind_some]
    simp only [List.set_cons_zero]
    rw [mldA (x := zM) rfl]
    rfl
theorem V18 (a : Int) : ∃ y : MV, AP cfg 18 [.int .i64 a] = some (.tup [y.av, .int .i64 (sizeE a a)]) ∧ y.fr = y ∧ LOk 1 y.lv ∧
    ((sizeE a a ≠ 0 ∧ y = zM) ∨ (sizeE a a = 0 ∧ y.rows = a ∧ y.cols = a ∧ y.lv.es = cellsF unitR a.toNat a.toNat)) := by
  by_cases h0 : sizeE a a = 0
  · have hb : 0 ≤ a ∧ a ≤ 60 := by unfold sizeE at h0; (repeat' split at h0) <;> omega
    obtain ⟨x, rfl⟩ := Int.eq_ofNat_of_zero_le hb.1
    obtain ⟨y, f1, f2, f3, f4, f5, f6⟩ := V58 (fill62 x x) (by omega) (by omega)
    refine ⟨y, (AP_ofz _ _ (fz_tupM2 y (fza_int _ _)) rfl (m := [cM y]) ?_).trans (by rw [f6]), f6, f5, .inr ⟨h0, f2, f3, f4⟩⟩
    rw [T18]
    simp only [new_m, new_r, List.length_nil, List.nil_append]
    rw [pcII, V57, Option.map_some, Option.bind_some, binA_neq, Option.bind_some, ifA_dec, if_neg (fun hn => hn h0), pcall3 (fz_int _ _) (fz_int _ _) (fz_fn0 62), f1, Option.map_some, Option.bind_some, mstA (x := zM) rfl, Option.bind_some]
    simp only [List.set_cons_zero]
    rw [mldA (x := y) rfl, h0]
    rfl
  · refine ⟨zM, AP_ofz _ _ (fz_tupM2 zM (fza_int _ _)) rfl (m := [cM zM]) ?_, rfl, zM_ok 1, .inl ⟨h0, rfl⟩⟩
    rw [T18]
    simp only [new_m, new_r, List.length_nil, List.nil_append]
    rw [pcII, V57, Option.map_some, Option.bind_some, binA_neq, Option.bind_some, ifA_dec, if_pos h0, bldM, Option.bind_some, mstA (x := zM) rfl, Option.bind_some]
    simp only [List.set_cons_zero]
    rw [mldA (x := zM) rfl]
    rfl
end Go.Ab
