/- The store's methods: Leaf, Make, Node, Count, New, by value. -/
import Derived.Test.YtiipgpkgcdhbfaaGreatDoorAP2
import Derived.Test.YtiipgpkgcdhbfaaGreatDoorAP1
import Derived.Test.YtiipgpkgcdhbfaaGreatDoorProg
import Derived.Tactics
import Derived.Tactics2
import Derived.Defers
import Derived.Recover
import Derived.Laws.Pointers
import Derived.Test.YtiipgpkgcdhbfaaGreatDoorAP0
import Derived.ProofKit
import Derived.OpenShut
import Derived.ChangeArms
import Derived.LaidMore
import Derived.Lay
import Derived.KernelRfl
import Derived.Test.YtiipgpkgcdhbfaaGreatDoorRows
set_option linter.unusedVariables false
set_option linter.unusedSimpArgs false
set_option linter.unusedSectionVars false
set_option maxRecDepth 100000
namespace Go.Ab
open Go.Proofs Go.Proofs.Tryz

/-- A row of whole numbers. -/
abbrev IA (z : Bool) (o : Own) (ns : List Int) : AV := .lst none z o (ns.map (AV.int .i64))
theorem fz_IA (z : Bool) (o : Own) (ns : List Int) : Fz (IA z o ns) (IA z o.fr ns) := fun m => by cases o <;> rfl
theorem len_IA (z : Bool) (o : Own) (ns : List Int) : lenA false (IA z o ns) = some (.int .i64 ns.length) := by
  rw [lenA_lst, List.length_map]
theorem idx_IA {z : Bool} {o : Own} {ns : List Int} {k : IntKind} {i : Nat} (h : i < ns.length) : indexAddrA none (IA z o ns) (.int k i) = some (.vptr [.int .i64 ns[i]]) := by
  simp [indexAddrA, h, AV.cells]
/-! ### Clone -/
def clA (z : Bool) (ns : List Int) : AV := if z then .lst none true .full [] else if ns = [] then .lst none false .full [] else IA false .no ns
theorem V49 (z : Bool) (o : Own) (ns : List Int) (hl : ns.length ≤ 1000000) : AP cfg 88 [IA z o ns] = some (clA z ns) := by
  have e0 : binA .sl .eql (IA z o ns) (.lst none true .full []) = some (.bool z) := rfl
  cases z with
  | true =>
    refine AP_of (m := []) (v := .lst none true .full []) (l := []) ?_ rfl rfl
    rw [T88, e0, Option.bind_some, ifA_t]
  | false =>
    cases ns with
    | nil =>
      refine AP_of (m := []) (v := .lst none false .full []) (l := []) ?_ rfl rfl
      rw [T88, e0, Option.bind_some, ifA_f]
      rfl
    | cons n ns =>
      refine AP_of (m := [some (Ent.tok (0 + (ns.length + 1)) 1)]) (v := .lst none false (.tok 0 3) ((n :: ns).map (AV.int .i64))) (l := []) ?_ rfl rfl
      rw [T88, e0, Option.bind_some, ifA_f, show buildSliceA none [] = some (.lst none false .full []) from rfl, Option.bind_some]
      have hb : (0 + (ns.length + 1)) * 8 ≤ roomA := by unfold roomA; simp at hl; omega
      simp only [appA, List.map_cons, List.length_nil, List.length_cons, List.length_map, hb, if_true, or_true, Bool.false_eq_true, if_false, newAt, List.length_nil, List.nil_append, Option.bind_some, Sh.size]
theorem pc49 (z : Bool) (o : Own) (ns : List Int) (hl : ns.length ≤ 1000000) (m : Mem) : pcall (AP cfg) none m 88 [IA z o ns] = some (clA z ns, m) := by
  rw [pcall1 (fz_IA z o ns), V49 _ _ _ hl]; rfl
/-! ### Small functions -/
theorem V51 (n : Int) : AP cfg 94 [.int .i64 n] = some (.bool (decide (0 ≤ n ∧ n ≤ 2147483647))) := by
  refine AP_of (m := []) (v := .bool (decide (0 ≤ n ∧ n ≤ 2147483647))) (l := []) ?_ rfl rfl
  rw [T94, binA_geq, Option.bind_some, ifA_dec]
  by_cases h : n ≥ 0
  · rw [if_pos h, binA_leq, Option.bind_some]
    congr 3
    exact decide_eq_decide.2 (by omega)
  · rw [if_neg h]
    congr 3
    exact (decide_eq_false (by omega)).symm
theorem pc51 (n : Int) (m : Mem) : pcall (AP cfg) none m 94 [.int .i64 n] = some (.bool (decide (0 ≤ n ∧ n ≤ 2147483647)), m) := by
  rw [pcall1 (fz_int _ _), V51]; rfl
section
variable {m : Mem} {s : Nat} {F : List Nat} {arms : AV} {most : Int} {l : List ND}
theorem A50 (h : St8 m s F arms most l) (hm : most ≠ 0) : AC cfg 80 [.ptr s 0] m = some (.bool false, m) := by
  obtain ⟨p, na, T, h, rfl⟩ := h
  have hs := h.hs
  rw [T80, show binA .pt .eql (.ptr s 0) .nilp = some (.bool false) from rfl, Option.bind_some, ifA_f]
  repeat ((with_reducible (first | apply bs | apply bsy)); (focus (first | (simp (disch := (first | assumption | omega | (simp only [List.length_append, List.length_set, List.length_cons, List.length_nil]; first | done | omega))) only [List.all_cons, List.all_nil, Bool.and_true, Bool.and_self, beq_self_eq_true, resv1, List.length_map, ld_v3, ld_v1, binA_eql, binA_neq, binA_lss, binA_leq, binA_gtr, binA_geq, loadA_one, un_not, ld_ptr, st_ptr, putE1, objE_obj, Option.bind_some, cut1, cut3, cut4, nil_ptr, fa_ptr, g_lt, g_eq, g_sne, g_seq, new_n, box_n, List.getElem?_cons_zero, List.getElem?_cons_succ, ex0, ex1, Sh.size, cells_int, aok_int, cells_bool, aok_bool, cells_str, aok_str, cells_lst, aok_lst, cells_ptr, aok_ptr, cells_arr, aok_arr, cells_fn, aok_fn, cells_mref, aok_mref, cells_nilp, aok_nilp, cells_agg, shOk_n, shOk_s, lenA_lst, List.length_cons, List.length_nil, if_true, putAt, List.take_succ_cons, List.take_zero, List.drop_succ_cons, List.drop_zero, List.cons_append, List.nil_append, List.append_nil, Nat.zero_add, Nat.reduceAdd, Nat.reduceLeDiff, Nat.le_refl, List.drop_nil, List.take_nil, List.length_append, List.length_set, hs]; first | done | rfl) | rfl)); try dsimp only)
  rw [show (decide (most = 0)) = false from decide_eq_false hm]
theorem A56 (h : St8 m s F arms most l) (i : Int) : AC cfg 81 [.ptr s 0, .int .i64 i] m = some (.bool (decide (0 ≤ i ∧ i < l.length)), m) := by
  obtain ⟨p, na, T, h, rfl⟩ := h
  have hs := h.hs
  have hlen : lenA false na = some (.int .i64 l.length) := by
    cases h.hn with
    | none => rfl
    | some t l ht => rw [lenA_lst, List.length_map]
  rw [T81, binA_geq, Option.bind_some, ifA_dec]
  by_cases h0 : i ≥ 0
  · rw [if_pos h0]
    repeat ((with_reducible (first | apply bs | apply bsy)); (focus (first | (simp (disch := (first | assumption | omega | (simp only [List.length_append, List.length_set, List.length_cons, List.length_nil]; first | done | omega))) only [List.all_cons, List.all_nil, Bool.and_true, Bool.and_self, beq_self_eq_true, resv1, List.length_map, ld_v3, ld_v1, binA_eql, binA_neq, binA_lss, binA_leq, binA_gtr, binA_geq, loadA_one, un_not, ld_ptr, st_ptr, putE1, objE_obj, Option.bind_some, cut1, cut3, cut4, nil_ptr, fa_ptr, g_lt, g_eq, g_sne, g_seq, new_n, box_n, List.getElem?_cons_zero, List.getElem?_cons_succ, ex0, ex1, Sh.size, cells_int, aok_int, cells_bool, aok_bool, cells_str, aok_str, cells_lst, aok_lst, cells_ptr, aok_ptr, cells_arr, aok_arr, cells_fn, aok_fn, cells_mref, aok_mref, cells_nilp, aok_nilp, cells_agg, shOk_n, shOk_s, lenA_lst, List.length_cons, List.length_nil, if_true, putAt, List.take_succ_cons, List.take_zero, List.drop_succ_cons, List.drop_zero, List.cons_append, List.nil_append, List.append_nil, Nat.zero_add, Nat.reduceAdd, Nat.reduceLeDiff, Nat.le_refl, List.drop_nil, List.take_nil, List.length_append, List.length_set, hs, hlen]; first | done | rfl) | rfl)); try dsimp only)
    congr 3
    exact decide_eq_decide.2 (by omega)
  · rw [if_neg h0, show (decide (0 ≤ i ∧ i < l.length)) = false from decide_eq_false (by omega)]
theorem na_idx {na : AV} {T : List Nat} (h : NA m na l T) {i : Nat} (hi : i < l.length) : indexAddrA (some 3) na (.int .i64 i) = some (.vptr [.int .i64 l[i].var, kidsA l[i], .int .i64 l[i].leaf]) := by
  cases h with
  | none => simp at hi
  | some t l ht => simp [indexAddrA, hi]; rfl
theorem kidsA_ok (n : ND) : atomOk (kidsA n) = true := by unfold kidsA; split <;> rfl
theorem kidsA_cells (n : ND) : (kidsA n).cells = [kidsA n] := by unfold kidsA; split <;> rfl
theorem box_av (n : ND) (m : Mem) (h : Mem.get m m.length = none) : storeA (some 3) (m ++ [some (Ent.obj true [.int .i64 0, .lst none true .full [], .int .i64 0])]) (.ptr m.length 0) (.agg [.int .i64 n.var, kidsA n, .int .i64 n.leaf]) = some (m ++ [some (Ent.obj true [.int .i64 n.var, kidsA n, .int .i64 n.leaf])]) := by
  have e : shOk (some 3) (.agg [.int .i64 n.var, kidsA n, .int .i64 n.leaf]) = true := by unfold kidsA; split <;> rfl
  rw [st_ptr, g_eq rfl, objE_obj, Option.bind_some]
  simp [putE1, Sh.size, e, putAt, AV.cells]
theorem get_len (m : Mem) : Mem.get m m.length = none := by simp [Mem.get]
/-! ### leaf, node -/
def leafN (x : Int) : ND := ⟨-1, [], x⟩
theorem leafN_ok {x : Int} (h : 0 ≤ x ∧ x ≤ 2147483647) : (leafN x).ok := .inl ⟨rfl, rfl, h⟩
theorem A54 (h : St8 m s F arms most l) {x : Int} (hx : 0 ≤ x ∧ x ≤ 2147483647) (hl : (l.length : Int) < most) (hmo : most ≤ 100000) :
    ∃ m' F', AC cfg 96 [.ptr s 0, .int .i64 x] m = some (.int .i64 (l.idxOf (leafN x) : Nat), m') ∧ St8 m' s F' arms most (ins l (leafN x)) ∧ Fr m m' F ∧ Gr m F F' := by
  obtain ⟨m', F', e, h1, h2, h3⟩ := put_St h (leafN_ok hx) (z := true) (o := .full) rfl hl hmo
  refine ⟨m', F', ?_, h1, h2, h3⟩
  have e : AC cfg 139 [.ptr s 0, .agg [.int .i64 (-1), .lst none true .full [], .int .i64 x]] m = _ := e
  rw [T96, show buildA (.agg [(.int .i64 0), (.lst none true .full []), (.int .i64 0)]) [(0, none, (.int .i64 (-1))), (2, none, .int .i64 x)] = some (.agg [.int .i64 (-1), .lst none true .full [], .int .i64 x]) from rfl, Option.bind_some, e, Option.bind_some]
/-! ### try -/
theorem callK_in {f g : Nat} {vs : List AV} {m : Mem} {K : AV → Mem → Option (AV × Mem)} (h1 : ((cfg.lib g).isNone && (cfg.libm g).isNone) = true) (h2 : cfg.inl f g = true) (h3 : cfg.thaw f g = false) (h4 : cfg.frzc f g = false := by rfl) : callK cfg f (AP cfg) (AC cfg) none g vs m K = (AC cfg g vs m).bind fun r => K r.1 r.2 := by
  have h5 : cfg.lib g = none ∧ cfg.libm g = none := by
    rw [Bool.and_eq_true] at h1
    exact ⟨Option.isNone_iff_eq_none.1 h1.1, Option.isNone_iff_eq_none.1 h1.2⟩
  unfold callK
  rw [h5.2, h5.1, h2, h4, h3]
theorem A52 {g : Nat} {caps : List AV} {id : Int} {l' : List ND} (h : St8 m s F arms most l) (h1 : ((cfg.lib g).isNone && (cfg.libm g).isNone) = true) (h2 : cfg.inl 84 g = true) (h3 : cfg.thaw 84 g = false)
    (hc : ∀ m1, Fr m m1 [] → ∃ m' F', AC cfg g caps m1 = some (.int .i64 id, m') ∧ St8 m' s F' arms most l' ∧ Fr m1 m' F ∧ Gr m1 F F') :
    ∃ m' F', AC cfg 84 [.ptr s 0, .fn g caps] m = some (.tup [.int .i64 id, .int .i64 0], m') ∧ St8 m' s F' arms most l' ∧ Fr m m' F ∧ Gr m F F' := by
  have hlt := h.lt
  obtain ⟨p, na, T, h, rfl⟩ := h
  have hs := h.hs
  have hsl := get_lt hs
  have hlen : lenA false na = some (.int .i64 l.length) := by
    cases h.hn with
    | none => rfl
    | some t l ht => rw [lenA_lst, List.length_map]
  obtain ⟨m2, F2, e2, k1, k2, k3⟩ := hc (List.set (((m ++ [some (Ent.obj true [.ptr s 0])]) ++ [some (Ent.obj true [.int .i64 0])]) ++ [some (Ent.obj true [.int .i64 0])] ++ [some (Ent.obj true [.int .i64 0])]) (m.length + 1 + 1 + 1) (some (Ent.obj true [.int .i64 l.length]))) (((((Fr.app m _ _).snoc _).snoc _).snoc _).set _ (.inr (by omega)))
  have len2 := k2.len
  simp only [List.length_set, List.length_append, List.length_cons, List.length_nil] at len2
  have g1 : Mem.get m2 (m.length + 1) = some (Ent.obj true [.int .i64 0]) := by
    rw [k2.get _ (by simp) (fun hx => by have := hlt _ hx; omega)]; exact (by simp (disch := (first | assumption | omega | (simp only [List.length_append, List.length_set, List.length_cons, List.length_nil]; first | done | omega))) only [resv1, g_lt, g_eq, g_sne, g_seq]; first | done | rfl)
  have g2 : Mem.get m2 (m.length + 2) = some (Ent.obj true [.int .i64 0]) := by
    rw [k2.get _ (by simp) (fun hx => by have := hlt _ hx; omega)]; exact (by simp (disch := (first | assumption | omega | (simp only [List.length_append, List.length_set, List.length_cons, List.length_nil]; first | done | omega))) only [resv1, g_lt, g_eq, g_sne, g_seq]; first | done | rfl)
  have e : AC cfg 84 [.ptr s 0, .fn g caps] m = some (.tup [.int .i64 id, .int .i64 0], (m2.set (m.length + 1) (some (Ent.obj true [.int .i64 id]))).set (m.length + 1 + 1) (some (Ent.obj true [.int .i64 0]))) := by
    rw [T84]
    repeat ((with_reducible (first | apply bs | apply bsy)); (focus (first | (simp (disch := (first | assumption | omega | (simp only [List.length_append, List.length_set, List.length_cons, List.length_nil]; first | done | omega))) only [List.all_cons, List.all_nil, Bool.and_true, Bool.and_self, beq_self_eq_true, resv1, List.length_map, ld_v3, ld_v1, binA_eql, binA_neq, binA_lss, binA_leq, binA_gtr, binA_geq, loadA_one, un_not, ld_ptr, st_ptr, putE1, objE_obj, Option.bind_some, cut1, cut3, cut4, nil_ptr, fa_ptr, g_lt, g_eq, g_sne, g_seq, new_n, box_n, List.getElem?_cons_zero, List.getElem?_cons_succ, ex0, ex1, Sh.size, cells_int, aok_int, cells_bool, aok_bool, cells_str, aok_str, cells_lst, aok_lst, cells_ptr, aok_ptr, cells_arr, aok_arr, cells_fn, aok_fn, cells_mref, aok_mref, cells_nilp, aok_nilp, cells_agg, shOk_n, shOk_s, lenA_lst, List.length_cons, List.length_nil, if_true, putAt, List.take_succ_cons, List.take_zero, List.drop_succ_cons, List.drop_zero, List.cons_append, List.nil_append, List.append_nil, Nat.zero_add, Nat.reduceAdd, Nat.reduceLeDiff, Nat.le_refl, List.drop_nil, List.take_nil, List.length_append, List.length_set, hs, hlen, box_p]; first | done | rfl) | rfl)); try dsimp only)
    rw [List.nil_append, callK_in h1 h2 h3, e2, Option.bind_some]
    dsimp only
    repeat ((with_reducible (first | apply bs | apply bsy)); (focus (first | (simp (disch := (first | assumption | omega | (simp only [List.length_append, List.length_set, List.length_cons, List.length_nil]; first | done | omega))) only [List.all_cons, List.all_nil, Bool.and_true, Bool.and_self, beq_self_eq_true, resv1, List.length_map, ld_v3, ld_v1, binA_eql, binA_neq, binA_lss, binA_leq, binA_gtr, binA_geq, loadA_one, un_not, ld_ptr, st_ptr, putE1, objE_obj, Option.bind_some, cut1, cut3, cut4, nil_ptr, fa_ptr, g_lt, g_eq, g_sne, g_seq, new_n, box_n, List.getElem?_cons_zero, List.getElem?_cons_succ, ex0, ex1, Sh.size, cells_int, aok_int, cells_bool, aok_bool, cells_str, aok_str, cells_lst, aok_lst, cells_ptr, aok_ptr, cells_arr, aok_arr, cells_fn, aok_fn, cells_mref, aok_mref, cells_nilp, aok_nilp, cells_agg, shOk_n, shOk_s, lenA_lst, List.length_cons, List.length_nil, if_true, putAt, List.take_succ_cons, List.take_zero, List.drop_succ_cons, List.drop_zero, List.cons_append, List.nil_append, List.append_nil, Nat.zero_add, Nat.reduceAdd, Nat.reduceLeDiff, Nat.le_refl, List.drop_nil, List.take_nil, List.length_append, List.length_set, g1, g2]; first | done | rfl) | rfl)); try dsimp only)
  refine ⟨_, F2, e, ?_, ?_, ?_⟩
  · refine k1.move fun x hx => ?_
    have hx2 : x ≠ m.length + 1 ∧ x ≠ m.length + 1 + 1 := by
      rcases k3 x hx with h | h
      · have := hlt x h; omega
      · simp only [List.length_set, List.length_append, List.length_cons, List.length_nil] at h; omega
    rw [g_sne hx2.2, g_sne hx2.1]
  · have f1 : Fr m m2 (s :: p :: T) := Fr.trans (((((Fr.app m _ _).snoc _).snoc _).snoc _).set _ (.inr (by omega))) k2 fun x hx => .inl hx
    exact (f1.set _ (.inr (by omega))).set _ (.inr (by omega))
  · intro x hx
    rcases k3 x hx with h | h
    · exact .inl h
    · simp only [List.length_set, List.length_append, List.length_cons, List.length_nil] at h
      exact .inr (by omega)
end
end Go.Ab

/- The store's methods: Leaf, Make, Node, Count, New, by value. -/
set_option linter.unusedVariables false
set_option linter.unusedSimpArgs false
set_option linter.unusedSectionVars false
set_option maxRecDepth 100000
namespace Go.Ab
open Go.Proofs Go.Proofs.Tryz

section
variable {m : Mem} {s : Nat} {F : List Nat} {arms : AV} {most : Int} {l : List ND}
theorem not_mem_nil {F : List Nat} : ∀ x ∈ F, x ∉ ([] : List Nat) := fun _ _ h => by cases h
theorem St8.app (h : St8 m s F arms most l) {m' : Mem} (f : Fr m m' []) : St8 m' s F arms most l := h.fr f not_mem_nil
/-! ### Leaf -/
def leafR (l : List ND) (x : Int) : (Int × Int) × List ND := if 0 ≤ x ∧ x ≤ 2147483647 then ((((l.idxOf (leafN x) : Nat) : Int), 0), ins l (leafN x)) else ((0, 1), l)
theorem A53 {b1 b2 : Nat} {x : Int} (h : St8 m s F arms most l) (h1 : m.get b1 = some (Ent.obj true [.ptr s 0])) (h2 : m.get b2 = some (Ent.obj true [.int .i64 x])) (hx : 0 ≤ x ∧ x ≤ 2147483647) (hl : (l.length : Int) < most) (hmo : most ≤ 100000) :
    ∃ m' F', AC cfg 95 [.ptr b1 0, .ptr b2 0] m = some (.int .i64 (l.idxOf (leafN x) : Nat), m') ∧ St8 m' s F' arms most (ins l (leafN x)) ∧ Fr m m' F ∧ Gr m F F' := by
  obtain ⟨m', F', e, k⟩ := A54 h hx hl hmo
  refine ⟨m', F', ?_, k⟩
  rw [T95]
  repeat ((with_reducible (first | apply bs | apply bsy)); (focus (first | (simp (disch := (first | assumption | omega | (simp only [List.length_append, List.length_set, List.length_cons, List.length_nil]; first | done | omega))) only [List.all_cons, List.all_nil, Bool.and_true, Bool.and_self, beq_self_eq_true, resv1, List.length_map, ld_v3, ld_v1, binA_eql, binA_neq, binA_lss, binA_leq, binA_gtr, binA_geq, loadA_one, un_not, ld_ptr, st_ptr, putE1, objE_obj, Option.bind_some, cut1, cut3, cut4, nil_ptr, fa_ptr, g_lt, g_eq, g_sne, g_seq, new_n, box_n, List.getElem?_cons_zero, List.getElem?_cons_succ, ex0, ex1, Sh.size, cells_int, aok_int, cells_bool, aok_bool, cells_str, aok_str, cells_lst, aok_lst, cells_ptr, aok_ptr, cells_arr, aok_arr, cells_fn, aok_fn, cells_mref, aok_mref, cells_nilp, aok_nilp, cells_agg, shOk_n, shOk_s, lenA_lst, List.length_cons, List.length_nil, if_true, putAt, List.take_succ_cons, List.take_zero, List.drop_succ_cons, List.drop_zero, List.cons_append, List.nil_append, List.append_nil, Nat.zero_add, Nat.reduceAdd, Nat.reduceLeDiff, Nat.le_refl, List.drop_nil, List.take_nil, List.length_append, List.length_set, h1, h2, e]; first | done | rfl) | rfl)); try dsimp only)
theorem A15 (h : St8 m s F arms most l) (x : Int) (hl : (l.length : Int) < most) (hmo : most ≤ 100000) :
    ∃ m' F', AC cfg 33 [.ptr s 0, .int .i64 x] m = some (.tup [.int .i64 (leafR l x).1.1, .int .i64 (leafR l x).1.2], m') ∧ St8 m' s F' arms most (leafR l x).2 ∧ Fr m m' F ∧ Gr m F F' := by
  have f2 : Fr m ((m ++ [some (Ent.obj true [.ptr s 0])]) ++ [some (Ent.obj true [.int .i64 x])]) [] := (Fr.app m _ _).snoc _
  have h2 := h.app f2
  have e50 := A50 h2 (by omega)
  have hlt := h.lt
  by_cases hx : 0 ≤ x ∧ x ≤ 2147483647
  · have hd : decide (0 ≤ x ∧ x ≤ 2147483647) = true := decide_eq_true hx
    obtain ⟨m', F', e52, k1, k2, k3⟩ := A52 (g := 95) (caps := [.ptr m.length 0, .ptr (m.length + 1) 0]) (id := (l.idxOf (leafN x) : Nat)) h2 rfl rfl rfl
      (fun m1 fr => A53 (h2.app fr) (by rw [fr.get _ (by simp) (by simp)]; exact (by simp (disch := (first | assumption | omega | (simp only [List.length_append, List.length_set, List.length_cons, List.length_nil]; first | done | omega))) only [resv1, g_lt, g_eq, g_sne, g_seq]; first | done | rfl)) (by rw [fr.get _ (by simp) (by simp)]; exact (by simp (disch := (first | assumption | omega | (simp only [List.length_append, List.length_set, List.length_cons, List.length_nil]; first | done | omega))) only [resv1, g_lt, g_eq, g_sne, g_seq]; first | done | rfl)) hx hl hmo)
    refine ⟨m', F', ?_, by rw [leafR, if_pos hx]; exact k1, Fr.trans (f2.mono (by simp)) k2 fun _ h => .inl h, Gr.trans f2.len (Gr.refl m F) k3⟩
    rw [T33, leafR, if_pos hx]
    repeat ((with_reducible (first | apply bs | apply bsy)); (focus (first | (simp (disch := (first | assumption | omega | (simp only [List.length_append, List.length_set, List.length_cons, List.length_nil]; first | done | omega))) only [List.all_cons, List.all_nil, Bool.and_true, Bool.and_self, beq_self_eq_true, resv1, List.length_map, ld_v3, ld_v1, binA_eql, binA_neq, binA_lss, binA_leq, binA_gtr, binA_geq, loadA_one, un_not, ld_ptr, st_ptr, putE1, objE_obj, Option.bind_some, cut1, cut3, cut4, nil_ptr, fa_ptr, g_lt, g_eq, g_sne, g_seq, new_n, box_n, List.getElem?_cons_zero, List.getElem?_cons_succ, ex0, ex1, Sh.size, cells_int, aok_int, cells_bool, aok_bool, cells_str, aok_str, cells_lst, aok_lst, cells_ptr, aok_ptr, cells_arr, aok_arr, cells_fn, aok_fn, cells_mref, aok_mref, cells_nilp, aok_nilp, cells_agg, shOk_n, shOk_s, lenA_lst, List.length_cons, List.length_nil, if_true, putAt, List.take_succ_cons, List.take_zero, List.drop_succ_cons, List.drop_zero, List.cons_append, List.nil_append, List.append_nil, Nat.zero_add, Nat.reduceAdd, Nat.reduceLeDiff, Nat.le_refl, List.drop_nil, List.take_nil, List.length_append, List.length_set, box_p, box_i, e50]; first | done | rfl) | rfl)); try dsimp only)
    rw [ifA_f]
    repeat ((with_reducible (first | apply bs | apply bsy)); (focus (first | (simp (disch := (first | assumption | omega | (simp only [List.length_append, List.length_set, List.length_cons, List.length_nil]; first | done | omega))) only [List.all_cons, List.all_nil, Bool.and_true, Bool.and_self, beq_self_eq_true, resv1, List.length_map, ld_v3, ld_v1, binA_eql, binA_neq, binA_lss, binA_leq, binA_gtr, binA_geq, loadA_one, un_not, ld_ptr, st_ptr, putE1, objE_obj, Option.bind_some, cut1, cut3, cut4, nil_ptr, fa_ptr, g_lt, g_eq, g_sne, g_seq, new_n, box_n, List.getElem?_cons_zero, List.getElem?_cons_succ, ex0, ex1, Sh.size, cells_int, aok_int, cells_bool, aok_bool, cells_str, aok_str, cells_lst, aok_lst, cells_ptr, aok_ptr, cells_arr, aok_arr, cells_fn, aok_fn, cells_mref, aok_mref, cells_nilp, aok_nilp, cells_agg, shOk_n, shOk_s, lenA_lst, List.length_cons, List.length_nil, if_true, putAt, List.take_succ_cons, List.take_zero, List.drop_succ_cons, List.drop_zero, List.cons_append, List.nil_append, List.append_nil, Nat.zero_add, Nat.reduceAdd, Nat.reduceLeDiff, Nat.le_refl, List.drop_nil, List.take_nil, List.length_append, List.length_set, box_p, box_i, pc51, hd]; first | done | rfl) | rfl)); try dsimp only)
    rw [Bool.not_true, ifA_f]
    repeat ((with_reducible (first | apply bs | apply bsy)); (focus (first | (simp (disch := (first | assumption | omega | (simp only [List.length_append, List.length_set, List.length_cons, List.length_nil]; first | done | omega))) only [List.all_cons, List.all_nil, Bool.and_true, Bool.and_self, beq_self_eq_true, resv1, List.length_map, ld_v3, ld_v1, binA_eql, binA_neq, binA_lss, binA_leq, binA_gtr, binA_geq, loadA_one, un_not, ld_ptr, st_ptr, putE1, objE_obj, Option.bind_some, cut1, cut3, cut4, nil_ptr, fa_ptr, g_lt, g_eq, g_sne, g_seq, new_n, box_n, List.getElem?_cons_zero, List.getElem?_cons_succ, ex0, ex1, Sh.size, cells_int, aok_int, cells_bool, aok_bool, cells_str, aok_str, cells_lst, aok_lst, cells_ptr, aok_ptr, cells_arr, aok_arr, cells_fn, aok_fn, cells_mref, aok_mref, cells_nilp, aok_nilp, cells_agg, shOk_n, shOk_s, lenA_lst, List.length_cons, List.length_nil, if_true, putAt, List.take_succ_cons, List.take_zero, List.drop_succ_cons, List.drop_zero, List.cons_append, List.nil_append, List.append_nil, Nat.zero_add, Nat.reduceAdd, Nat.reduceLeDiff, Nat.le_refl, List.drop_nil, List.take_nil, List.length_append, List.length_set, e52]; first | done | rfl) | rfl)); try dsimp only)
  · have hd : decide (0 ≤ x ∧ x ≤ 2147483647) = false := decide_eq_false hx
    refine ⟨_, F, ?_, by rw [leafR, if_neg hx]; exact h2, f2.mono (by simp), Gr.refl _ _⟩
    rw [T33, leafR, if_neg hx]
    repeat ((with_reducible (first | apply bs | apply bsy)); (focus (first | (simp (disch := (first | assumption | omega | (simp only [List.length_append, List.length_set, List.length_cons, List.length_nil]; first | done | omega))) only [List.all_cons, List.all_nil, Bool.and_true, Bool.and_self, beq_self_eq_true, resv1, List.length_map, ld_v3, ld_v1, binA_eql, binA_neq, binA_lss, binA_leq, binA_gtr, binA_geq, loadA_one, un_not, ld_ptr, st_ptr, putE1, objE_obj, Option.bind_some, cut1, cut3, cut4, nil_ptr, fa_ptr, g_lt, g_eq, g_sne, g_seq, new_n, box_n, List.getElem?_cons_zero, List.getElem?_cons_succ, ex0, ex1, Sh.size, cells_int, aok_int, cells_bool, aok_bool, cells_str, aok_str, cells_lst, aok_lst, cells_ptr, aok_ptr, cells_arr, aok_arr, cells_fn, aok_fn, cells_mref, aok_mref, cells_nilp, aok_nilp, cells_agg, shOk_n, shOk_s, lenA_lst, List.length_cons, List.length_nil, if_true, putAt, List.take_succ_cons, List.take_zero, List.drop_succ_cons, List.drop_zero, List.cons_append, List.nil_append, List.append_nil, Nat.zero_add, Nat.reduceAdd, Nat.reduceLeDiff, Nat.le_refl, List.drop_nil, List.take_nil, List.length_append, List.length_set, box_p, box_i, e50]; first | done | rfl) | rfl)); try dsimp only)
    rw [ifA_f]
    repeat ((with_reducible (first | apply bs | apply bsy)); (focus (first | (simp (disch := (first | assumption | omega | (simp only [List.length_append, List.length_set, List.length_cons, List.length_nil]; first | done | omega))) only [List.all_cons, List.all_nil, Bool.and_true, Bool.and_self, beq_self_eq_true, resv1, List.length_map, ld_v3, ld_v1, binA_eql, binA_neq, binA_lss, binA_leq, binA_gtr, binA_geq, loadA_one, un_not, ld_ptr, st_ptr, putE1, objE_obj, Option.bind_some, cut1, cut3, cut4, nil_ptr, fa_ptr, g_lt, g_eq, g_sne, g_seq, new_n, box_n, List.getElem?_cons_zero, List.getElem?_cons_succ, ex0, ex1, Sh.size, cells_int, aok_int, cells_bool, aok_bool, cells_str, aok_str, cells_lst, aok_lst, cells_ptr, aok_ptr, cells_arr, aok_arr, cells_fn, aok_fn, cells_mref, aok_mref, cells_nilp, aok_nilp, cells_agg, shOk_n, shOk_s, lenA_lst, List.length_cons, List.length_nil, if_true, putAt, List.take_succ_cons, List.take_zero, List.drop_succ_cons, List.drop_zero, List.cons_append, List.nil_append, List.append_nil, Nat.zero_add, Nat.reduceAdd, Nat.reduceLeDiff, Nat.le_refl, List.drop_nil, List.take_nil, List.length_append, List.length_set, box_p, box_i, pc51, hd]; first | done | rfl) | rfl)); try dsimp only)
    rw [Bool.not_false, ifA_t]
/-! ### Make -/
/-- Does a function find one in a row? The function leaves memory as it is. -/
theorem W71 {z : Bool} {o : Own} {ks : List Int} {g : Nat} {caps : List AV} {p : Int → Bool} (hlen : ks.length ≤ 100000) (h1 : ((cfg.lib g).isNone && (cfg.libm g).isNone) = true) (h2 : cfg.inl 145 g = true) (h3 : cfg.thaw 145 g = false) (m0 : Mem)
    (hc : ∀ m1 k, Fr m0 m1 [] → ∃ m', AC cfg g (.int .i64 k :: caps) m1 = some (.bool (p k), m') ∧ Fr m1 m' []) : ∀ (j i : Nat) (m1 : Mem), i + j = ks.length → Fr m0 m1 [] →
    ∃ m' v, L145_2 (IA z o ks) (.fn g caps) (.int .i64 ks.length) (.int .i64 i) m1 (K145_2 (finK cfg.P f145.results.toList)) = some (.int .i64 v, m') ∧ decide (v ≥ 0) = (ks.drop i).any p ∧ Fr m0 m' []
  | 0, i, m1, h, f => by
    refine ⟨m1, -1, ?_, ?_, f⟩
    · rw [L145_2_eq, binA_lss, Option.bind_some, ifA_dec, if_neg (by omega), K145_2_x0]
    · rw [List.drop_eq_nil_of_le (by omega)]; rfl
  | j + 1, i, m1, h, f => by
    have hi : i < ks.length := by omega
    obtain ⟨m2, e, f2⟩ := hc m1 ks[i] f
    have f3 : Fr m0 m2 [] := Fr.trans f f2 fun x hx => by cases hx
    have e0 : L145_2 (IA z o ks) (.fn g caps) (.int .i64 ks.length) (.int .i64 i) m1 (K145_2 (finK cfg.P f145.results.toList)) =
        ifA (.bool (p ks[i])) (some (.int .i64 i, m2)) (L145_2 (IA z o ks) (.fn g caps) (.int .i64 ks.length) (.int .i64 (i + 1 : Nat)) m2 (K145_2 (finK cfg.P f145.results.toList))) := by
      rw [L145_2_eq, binA_lss, Option.bind_some, ifA_dec, if_pos (by omega), idx_IA hi, Option.bind_some, loadA_one, Option.bind_some, show fnOf (.fn g caps) = some (g, caps) from rfl, Option.bind_some, callK_in h1 h2 h3, List.singleton_append, e, Option.bind_some, K145_2_ret, i_add1 (by omega), Option.bind_some]
    rw [e0, List.drop_eq_getElem_cons hi, List.any_cons]
    cases hp : p ks[i] with
    | true =>
      rw [ifA_t]
      exact ⟨m2, i, rfl, by simp, f3⟩
    | false =>
      rw [ifA_f]
      obtain ⟨m', v, e1, e2, e3⟩ := W71 hlen h1 h2 h3 m0 hc j (i + 1) m2 (by omega) f3
      exact ⟨m', v, e1, by rw [e2, Bool.false_or], e3⟩
theorem A47 {z : Bool} {o : Own} {ks : List Int} {g : Nat} {caps : List AV} {p : Int → Bool} (hlen : ks.length ≤ 100000) (h1 : ((cfg.lib g).isNone && (cfg.libm g).isNone) = true) (h2 : cfg.inl 145 g = true) (h3 : cfg.thaw 145 g = false)
    (hc : ∀ m1 k, Fr m m1 [] → ∃ m', AC cfg g (.int .i64 k :: caps) m1 = some (.bool (p k), m') ∧ Fr m1 m' []) : ∃ m', AC cfg 92 [IA z o ks, .fn g caps] m = some (.bool (ks.any p), m') ∧ Fr m m' [] := by
  obtain ⟨m', v, e1, e2, e3⟩ := W71 (z := z) (o := o) hlen h1 h2 h3 m hc ks.length 0 m (by omega) (Fr.refl _ _)
  refine ⟨m', ?_, e3⟩
  rw [T92, T145, len_IA, Option.bind_some, show (AV.int .i64 0) = .int .i64 ((0 : Nat) : Int) from rfl, e1, Option.bind_some, show ((0 : Nat) : Int) = 0 from rfl]
  rw [binA_geq, Option.bind_some, e2, List.drop_zero]
/-! ### Make -/
theorem any_not (ks : List Int) (p : Int → Bool) : ks.any (fun k => !p k) = !ks.all p := by
  induction ks with
  | nil => rfl
  | cons k ks ih => rw [List.any_cons, List.all_cons, ih, Bool.not_and]
/-! ### Count, Node -/
theorem A20 (h : St8 m s F arms most l) (hm : most ≠ 0) : AC cfg 30 [.ptr s 0] m = some (.int .i64 l.length, m) := by
  have e50 := A50 h hm
  obtain ⟨p, na, T, h, rfl⟩ := h
  have hs := h.hs
  have hlen : lenA false na = some (.int .i64 l.length) := by
    cases h.hn with
    | none => rfl
    | some t l ht => rw [lenA_lst, List.length_map]
  rw [T30]
  repeat ((with_reducible (first | apply bs | apply bsy)); (focus (first | (simp (disch := (first | assumption | omega | (simp only [List.length_append, List.length_set, List.length_cons, List.length_nil]; first | done | omega))) only [List.all_cons, List.all_nil, Bool.and_true, Bool.and_self, beq_self_eq_true, resv1, List.length_map, ld_v3, ld_v1, binA_eql, binA_neq, binA_lss, binA_leq, binA_gtr, binA_geq, loadA_one, un_not, ld_ptr, st_ptr, putE1, objE_obj, Option.bind_some, cut1, cut3, cut4, nil_ptr, fa_ptr, g_lt, g_eq, g_sne, g_seq, new_n, box_n, List.getElem?_cons_zero, List.getElem?_cons_succ, ex0, ex1, Sh.size, cells_int, aok_int, cells_bool, aok_bool, cells_str, aok_str, cells_lst, aok_lst, cells_ptr, aok_ptr, cells_arr, aok_arr, cells_fn, aok_fn, cells_mref, aok_mref, cells_nilp, aok_nilp, cells_agg, shOk_n, shOk_s, lenA_lst, List.length_cons, List.length_nil, if_true, putAt, List.take_succ_cons, List.take_zero, List.drop_succ_cons, List.drop_zero, List.cons_append, List.nil_append, List.append_nil, Nat.zero_add, Nat.reduceAdd, Nat.reduceLeDiff, Nat.le_refl, List.drop_nil, List.take_nil, List.length_append, List.length_set, e50]; first | done | rfl) | rfl)); try dsimp only)
  rw [ifA_f]
  repeat ((with_reducible (first | apply bs | apply bsy)); (focus (first | (simp (disch := (first | assumption | omega | (simp only [List.length_append, List.length_set, List.length_cons, List.length_nil]; first | done | omega))) only [List.all_cons, List.all_nil, Bool.and_true, Bool.and_self, beq_self_eq_true, resv1, List.length_map, ld_v3, ld_v1, binA_eql, binA_neq, binA_lss, binA_leq, binA_gtr, binA_geq, loadA_one, un_not, ld_ptr, st_ptr, putE1, objE_obj, Option.bind_some, cut1, cut3, cut4, nil_ptr, fa_ptr, g_lt, g_eq, g_sne, g_seq, new_n, box_n, List.getElem?_cons_zero, List.getElem?_cons_succ, ex0, ex1, Sh.size, cells_int, aok_int, cells_bool, aok_bool, cells_str, aok_str, cells_lst, aok_lst, cells_ptr, aok_ptr, cells_arr, aok_arr, cells_fn, aok_fn, cells_mref, aok_mref, cells_nilp, aok_nilp, cells_agg, shOk_n, shOk_s, lenA_lst, List.length_cons, List.length_nil, if_true, putAt, List.take_succ_cons, List.take_zero, List.drop_succ_cons, List.drop_zero, List.cons_append, List.nil_append, List.append_nil, Nat.zero_add, Nat.reduceAdd, Nat.reduceLeDiff, Nat.le_refl, List.drop_nil, List.take_nil, List.length_append, List.length_set, hs, hlen]; first | done | rfl) | rfl)); try dsimp only)
end
end Go.Ab

/- What the interpreter does, function by function. -/
set_option maxRecDepth 100000
set_option linter.unusedVariables false
namespace Go.Ab
open Go.Proofs.Tryz
/-! ### sortilege/sortilegelaw23.few -/
/-! ### sortilege/sortilegelaw23.alive -/
theorem T13 (m : Mem) : AC cfg 13 [] m =
  (buildSliceA none [(.int .i64 2)]).bind fun v1 =>
  (AC cfg 32 [v1] m).bind fun r2 =>
  (extractA r2.1 0).bind fun v3 =>
  (extractA r2.1 1).bind fun v4 =>
  (binA .other .neq v4 (.int .i64 0)).bind fun v5 =>
  ifA v5 (
  some ((.bool false), r2.2)) (
  (binA .pt .eql v3 .nilp).bind fun v6 =>
  ifA v6 (
  some ((.bool false), r2.2)) (
  (AC cfg 33 [v3, (.int .i64 7)] r2.2).bind fun r7 =>
  (extractA r7.1 0).bind fun v8 =>
  (extractA r7.1 1).bind fun v9 =>
  (AC cfg 35 [v3, v8] r7.2).bind fun r10 =>
  (extractA r10.1 0).bind fun v11 =>
  (extractA r10.1 1).bind fun v12 =>
  (storeA (some 3) (newAt none r10.2 (.obj true [(.int .i64 0), (.lst none true .full []), (.int .i64 0)])).2 (.ptr (newAt none r10.2 .resv).1 0) v11).bind fun m13 =>
  (binA .other .eql v9 (.int .i64 0)).bind fun v14 =>
  ifA v14 (
  (binA .other .eql v12 (.int .i64 0)).bind fun v15 =>
  ifA v15 (
  (fieldAddrA 2 (.ptr (newAt none r10.2 .resv).1 0)).bind fun v16 =>
  (loadA none m13 v16).bind fun v17 =>
  (binA .other .eql v17 (.int .i64 7)).bind fun v18 =>
  ifA v18 (
  (fieldAddrA 0 (.ptr (newAt none r10.2 .resv).1 0)).bind fun v19 =>
  (loadA none m13 v19).bind fun v20 =>
  (binA .other .eql v20 (.int .i64 (-1))).bind fun v21 =>
  some (v21, m13)) (
  some ((.bool false), m13))) (
  some ((.bool false), m13))) (
  some ((.bool false), m13)))) :=
(AC_eq cfg 13 [] m (fn := f13) (c := bodyOf f13) at13 rfl).trans (by kernel_rfl)
end Go.Ab

/- What the interpreter does, function by function. -/
set_option maxRecDepth 100000
set_option linter.unusedVariables false
namespace Go.Ab
open Go.Proofs.Tryz
/-! ### sortilege/sortilegeref23.Arms -/
def O11_4 (m : Mem) : St := ⟨[.any, .any, .any, .any, .any, .any, .any, .any, .any, .any, .any, .any, .any, .any, .any, .any, .any, .any, .any, .any, .any], m⟩
def R11_4 (x2 : AV) (m : Mem) : St := ⟨[.any, .any, x2, .any, .any, .any, .any, .any, .any, .any, .any, .any, .any, .any, .any, .any, .any, .any, .any, .any, .any], m⟩
noncomputable def L11_4 (x8 x9 x10 : AV) (m : Mem) (K : Ex → St → Option (AV × Mem)) : Option (AV × Mem) := loopW (execW cfg 11 (AP cfg) (AC cfg) (c1 (c1 (c2 (c1 (c2 (c2 (bodyOf f11)))))))) (cfg.mask 11 (some 4)) ⟨[.any, .any, .any, .any, .any, .any, .any, .any, x8, x9, x10, .any, .any, .any, .any, .any, .any, .any, .any, .any, .any], m⟩ K
noncomputable abbrev K11_4_0 (K : Ex → St → Option (AV × Mem)) : Ex → St → Option (AV × Mem) := seqK (fun st => execW cfg 11 (AP cfg) (AC cfg) (c2 (c2 (c2 (bodyOf f11)))) st K) K
noncomputable abbrev K11_4_1 (K : Ex → St → Option (AV × Mem)) : Ex → St → Option (AV × Mem) := blockK 0 (K11_4_0 K)
noncomputable abbrev K11_4 (K : Ex → St → Option (AV × Mem)) : Ex → St → Option (AV × Mem) := (K11_4_1 K)
theorem T11 (a0 : AV) (m : Mem) : AC cfg 11 [a0] m =
  (lenA false a0).bind fun v1 =>
  (binA .other .gtr v1 (.int .i64 16)).bind fun v2 =>
  ifA v2 (
  some ((.int .i64 2), m)) (
  (lenA false a0).bind fun v3 =>
  L11_4 a0 v3 (.int .i64 0) m (K11_4 (finK cfg.P f11.results.toList))) :=
(AC_eq cfg 11 [a0] m (fn := f11) (c := bodyOf f11) at11 rfl).trans (by kernel_rfl)
theorem L11_4_eq (x8 x9 x10 : AV) (m : Mem) (K : Ex → St → Option (AV × Mem)) : L11_4 x8 x9 x10 m K =
  (binA .other .lss x10 x9).bind fun v1 =>
  ifA v1 (
  (indexAddrA none x8 x10).bind fun v2 =>
  (loadA none m v2).bind fun v3 =>
  (binA .other .lss v3 (.int .i64 1)).bind fun v4 =>
  ifA v4 (
  K .ret (R11_4 (.int .i64 1) m)) (
  (binA .other .gtr v3 (.int .i64 64)).bind fun v5 =>
  ifA v5 (
  K .ret (R11_4 (.int .i64 1) m)) (
  (binA .other .add x10 (.int .i64 1)).bind fun v6 =>
  L11_4 x8 x9 v6 m K))) (
  K (.exit 0) (O11_4 m)) :=
(loopW_eq (execW_lin _) _ _ _).trans (by kernel_rfl)
theorem K11_4_x0 (m : Mem) : K11_4 (finK cfg.P f11.results.toList) (.exit 0) (O11_4  m) =
  some ((.int .i64 0), m) := by kernel_rfl
theorem K11_4_ret (x2 : AV) (m : Mem) : K11_4 (finK cfg.P f11.results.toList) .ret (R11_4 x2 m) =
  some (x2, m) := by kernel_rfl
/-! ### sortilege/sortilegeref23.Places -/
/-! ### sortilege/sortilegelaw23.sameInts -/
def O27_4 (m : Mem) : St := ⟨[.any, .any, .any, .any, .any, .any, .any, .any, .any, .any, .any, .any, .any, .any, .any, .any, .any, .any, .any, .any, .any, .any, .any, .any, .any, .any], m⟩
def R27_4 (x4 : AV) (m : Mem) : St := ⟨[.any, .any, .any, .any, x4, .any, .any, .any, .any, .any, .any, .any, .any, .any, .any, .any, .any, .any, .any, .any, .any, .any, .any, .any, .any, .any], m⟩
noncomputable def L27_4 (x0 x1 x12 x13 : AV) (m : Mem) (K : Ex → St → Option (AV × Mem)) : Option (AV × Mem) := loopW (execW cfg 27 (AP cfg) (AC cfg) (c1 (c1 (c2 (c1 (c2 (c2 (bodyOf f27)))))))) (cfg.mask 27 (some 4)) ⟨[x0, x1, .any, .any, .any, .any, .any, .any, .any, .any, .any, .any, x12, x13, .any, .any, .any, .any, .any, .any, .any, .any, .any, .any, .any, .any], m⟩ K
noncomputable abbrev K27_4_0 (K : Ex → St → Option (AV × Mem)) : Ex → St → Option (AV × Mem) := seqK (fun st => execW cfg 27 (AP cfg) (AC cfg) (c2 (c2 (c2 (bodyOf f27)))) st K) K
noncomputable abbrev K27_4_1 (K : Ex → St → Option (AV × Mem)) : Ex → St → Option (AV × Mem) := blockK 0 (K27_4_0 K)
noncomputable abbrev K27_4 (K : Ex → St → Option (AV × Mem)) : Ex → St → Option (AV × Mem) := (K27_4_1 K)
theorem T27 (a0 a1 : AV) (m : Mem) : AC cfg 27 [a0, a1] m =
  (lenA false a0).bind fun v1 =>
  (lenA false a1).bind fun v2 =>
  (binA .other .neq v1 v2).bind fun v3 =>
  ifA v3 (
  some ((.bool false), m)) (
  (lenA false a0).bind fun v4 =>
  L27_4 a0 a1 v4 (.int .i64 0) m (K27_4 (finK cfg.P f27.results.toList))) :=
(AC_eq cfg 27 [a0, a1] m (fn := f27) (c := bodyOf f27) at27 rfl).trans (by kernel_rfl)
theorem L27_4_eq (x0 x1 x12 x13 : AV) (m : Mem) (K : Ex → St → Option (AV × Mem)) : L27_4 x0 x1 x12 x13 m K =
  (binA .other .lss x13 x12).bind fun v1 =>
  ifA v1 (
  (indexAddrA none x0 x13).bind fun v2 =>
  (loadA none m v2).bind fun v3 =>
  (indexAddrA none x1 x13).bind fun v4 =>
  (loadA none m v4).bind fun v5 =>
  (binA .other .neq v3 v5).bind fun v6 =>
  ifA v6 (
  K .ret (R27_4 (.bool false) m)) (
  (binA .other .add x13 (.int .i64 1)).bind fun v7 =>
  L27_4 x0 x1 x12 v7 m K)) (
  K (.exit 0) (O27_4 m)) :=
(loopW_eq (execW_lin _) _ _ _).trans (by kernel_rfl)
theorem K27_4_x0 (m : Mem) : K27_4 (finK cfg.P f27.results.toList) (.exit 0) (O27_4  m) =
  some ((.bool true), m) := by kernel_rfl
theorem K27_4_ret (x4 : AV) (m : Mem) : K27_4 (finK cfg.P f27.results.toList) .ret (R27_4 x4 m) =
  some (x4, m) := by kernel_rfl
/-! ### sortilege/sortilegeref23.SameList -/
/-! ### sortilege/sortilegeref23.sameNode -/
end Go.Ab

/- The laws' and the reference's small functions, by value. -/
set_option linter.unusedVariables false
set_option linter.unusedSimpArgs false
set_option linter.unusedSectionVars false
set_option maxRecDepth 100000
namespace Go.Ab
open Go.Proofs Go.Proofs.Tryz

/-! ### Arms -/
def armB (n : Int) : Bool := decide (1 ≤ n ∧ n ≤ 64)
def armsE (ns : List Int) : Int := if ns.length > 16 then 2 else if ns.all armB then 0 else 1
theorem W12 (z : Bool) (o : Own) (ns : List Int) (hl : ns.length ≤ 16) (m : Mem) (K : Ex → St → Option (AV × Mem)) : ∀ j i : Nat, i + j = ns.length → L11_4 (IA z o ns) (.int .i64 ns.length) (.int .i64 i) m K = if (ns.drop i).all armB then K (.exit 0) (O11_4 m) else K .ret (R11_4 (.int .i64 1) m)
  | 0, i, h => by
    rw [L11_4_eq, n_lss, Option.bind_some, ifA_dec, if_neg (by omega), List.drop_eq_nil_of_le (by omega)]; rfl
  | j + 1, i, h => by
    have hi : i < ns.length := by omega
    have ih := W12 z o ns hl m K j (i + 1) (by omega)
    rw [L11_4_eq, n_lss, Option.bind_some, ifA_dec, if_pos hi, idx_IA hi, Option.bind_some, loadA_one, Option.bind_some, binA_lss, Option.bind_some, ifA_dec, List.drop_eq_getElem_cons hi, List.all_cons]
    by_cases h1 : ns[i] < 1
    · rw [if_pos h1, show armB ns[i] = false from decide_eq_false (by omega)]; rfl
    · rw [if_neg h1, binA_gtr, Option.bind_some, ifA_dec]
      by_cases h2 : ns[i] > 64
      · rw [if_pos h2, show armB ns[i] = false from decide_eq_false (by omega)]; rfl
      · rw [if_neg h2, i_add1 (by omega), Option.bind_some, ih, show armB ns[i] = true from decide_eq_true (by omega), Bool.true_and]
theorem V12 (z : Bool) (o : Own) (ns : List Int) : AP cfg 11 [IA z o ns] = some (.int .i64 (armsE ns)) := by
  refine AP_of (m := []) (v := .int .i64 (armsE ns)) (l := []) ?_ rfl rfl
  unfold armsE
  rw [T11, len_IA, Option.bind_some, show ((16 : Int)) = ((16 : Nat) : Int) from rfl, n_gtr, Option.bind_some, ifA_dec]
  by_cases h : ns.length > 16
  · rw [if_pos h, if_pos h]
  · rw [if_neg h, if_neg h, Option.bind_some, show ((0 : Int)) = ((0 : Nat) : Int) from rfl, W12 z o ns (by omega) [] _ ns.length 0 (by omega), List.drop_zero]
    by_cases h2 : ns.all armB = true
    · rw [if_pos h2, if_pos h2, K11_4_x0]; rfl
    · rw [if_neg h2, if_neg h2, K11_4_ret]
theorem pc12 (z : Bool) (o : Own) (ns : List Int) (d : Option Nat) (m : Mem) : pcall (AP cfg) d m 11 [IA z o ns] = some (.int .i64 (armsE ns), m) := by
  rw [pcall1 (fz_IA z o ns), V12]; rfl
theorem armsE_ok {ns : List Int} (h : armsE ns = 0) : ns.length ≤ 16 ∧ ∀ a ∈ ns, 1 ≤ a ∧ a ≤ 64 := by
  unfold armsE at h
  split at h
  · cases h
  · split at h
    · rename_i h1 h2
      exact ⟨by omega, fun a ha => by have := List.all_eq_true.1 h2 a ha; exact of_decide_eq_true this⟩
    · cases h
/-! ### Places -/
/-! ### few -/
theorem slice_IA (z : Bool) (o : Own) (ns : List Int) (k : IntKind) (i : Nat) (h : i ≤ ns.length) : sliceT none (IA z o ns) none (some (.int k i)) none = some (IA z .no (ns.take i)) := by
  simp [sliceT, sliceA, boundA, h, List.map_take]
/-! ### Nodes of the reference: one, sameNode, SameList -/
/-- The kids as a row. -/
def kz (n : ND) : Bool := if n.var < 0 then true else false
def ko (n : ND) : Own := if n.var < 0 then .full else .no
theorem kids_IA {n : ND} (h : n.ok) : kidsA n = IA (kz n) (ko n) n.kids := by
  unfold kidsA kz ko
  split
  · rename_i hv
    rcases h with ⟨_, h2, _⟩ | ⟨h1, _⟩
    · rw [h2]; rfl
    · omega
  · rfl
/-! ### may -/
end Go.Ab

/- Node, New, alive, into, by value. -/
set_option linter.unusedVariables false
set_option linter.unusedSimpArgs false
set_option linter.unusedSectionVars false
set_option maxRecDepth 100000
namespace Go.Ab
open Go.Proofs Go.Proofs.Tryz

theorem st_agg3 {m : Mem} {k : Nat} {a b c a' b' c' : AV} (h : m.get k = some (Ent.obj true [a, b, c])) (hs : shOk (some 3) (.agg [a', b', c']) = true) : storeA (some 3) m (.ptr k 0) (.agg [a', b', c']) = some (m.set k (some (Ent.obj true [a', b', c']))) := by
  rw [st_ptr, h, objE_obj, Option.bind_some]
  simp [putE1, Sh.size, hs, putAt, AV.cells]
theorem sh_i (a b : Int) (z : Bool) (o : Own) (es : List AV) : shOk (some 3) (.agg [.int .i64 a, .lst none z o es, .int .i64 b]) = true := rfl
section
variable {m : Mem} {s : Nat} {F : List Nat} {arms : AV} {most : Int} {l : List ND}
theorem clA_kids {n : ND} (h : n.ok) (hne : ¬ n.var < 0 → n.kids ≠ []) : clA (kz n) n.kids = kidsA n := by
  unfold clA kz kidsA
  by_cases hv : n.var < 0
  · rw [if_pos hv, if_pos rfl, if_pos hv]
  · rw [if_neg hv, if_neg (by simp), if_neg hv, if_neg (hne hv)]
/-- Node: what it gives. -/
def nodeV (l : List ND) (i : Int) : AV × Int := if 0 ≤ i ∧ i < l.length then ((l.getD i.toNat ⟨0, [], 0⟩).av, 0) else (.agg [.int .i64 0, .lst none true .full [], .int .i64 0], 1)
def kidsNe (l : List ND) : Prop := ∀ n ∈ l, ¬ n.var < 0 → n.kids ≠ []
theorem A21 (h : St8 m s F arms most l) (hm : most ≠ 0) (hk : kidsNe l) (i : Int) : ∃ m', AC cfg 35 [.ptr s 0, .int .i64 i] m = some (.tup [(nodeV l i).1, .int .i64 (nodeV l i).2], m') ∧ Fr m m' [] := by
  have f1 : Fr m (m ++ [some (Ent.obj true [.int .i64 0, .lst none true .full [], .int .i64 0])]) [] := Fr.app m _ _
  have h1 := h.app f1
  have e50 := A50 h1 hm
  have e56 := A56 h1 i
  have hs : ∃ na p T, Mem.get m s = some (Ent.obj true [arms, na, .mref p, .int .i64 most]) ∧ NA m na l T ∧ ∀ x ∈ l, x.ok := by
    obtain ⟨p, na, T, h, rfl⟩ := h
    exact ⟨na, p, T, h.hs, h.hn, h.ok⟩
  obtain ⟨na, p, T, hs, hna, hok⟩ := hs
  have hsl := get_lt hs
  by_cases hi : 0 ≤ i ∧ i < l.length
  · have hd : decide (0 ≤ i ∧ i < l.length) = true := decide_eq_true hi
    obtain ⟨t, rfl⟩ := Int.eq_ofNat_of_zero_le hi.1
    have ht : t < l.length := by omega
    have hnv : nodeV l t = (l[t].av, 0) := by rw [nodeV, if_pos hi, Int.toNat_natCast, List.getD_eq_getElem?_getD, List.getElem?_eq_getElem ht, Option.getD_some]
    have hidx := na_idx hna ht
    have hto := hok _ (List.getElem_mem ht)
    have bx := box_av l[t] (m ++ [some (Ent.obj true [.int .i64 0, .lst none true .full [], .int .i64 0])]) (get_len _)
    simp only [List.length_append, List.length_cons, List.length_nil, Nat.zero_add] at bx
    have kk := kids_IA hto
    have hl64 : l[t].kids.length ≤ 1000000 := by
      rcases hto with ⟨_, h2, _⟩ | ⟨_, _, _, _, h5⟩
      · rw [h2]; simp
      · omega
    have c49 := fun m => pc49 (kz l[t]) (ko l[t]) l[t].kids hl64 m
    rw [← kk, clA_kids hto (hk _ (List.getElem_mem ht))] at c49
    have oka := kidsA_ok l[t]
    have cel := kidsA_cells l[t]
    have e : ∃ m', AC cfg 35 [.ptr s 0, .int .i64 t] m = some (.tup [l[t].av, .int .i64 0], m') ∧ m' = List.set ((((m ++ [some (Ent.obj true [.int .i64 0, .lst none true .full [], .int .i64 0])]) ++ [some (Ent.obj true [.int .i64 l[t].var, kidsA l[t], .int .i64 l[t].leaf])]).set (m.length + 1) (some (Ent.obj true [.int .i64 l[t].var, kidsA l[t], .int .i64 l[t].leaf])))) m.length (some (Ent.obj true [.int .i64 l[t].var, kidsA l[t], .int .i64 l[t].leaf])) := by
      refine ⟨_, ?_, rfl⟩
      rw [T35]
      repeat ((with_reducible (first | apply bs | apply bsy)); (focus (first | (simp (disch := (first | assumption | omega | (simp only [List.length_append, List.length_set, List.length_cons, List.length_nil]; first | done | omega))) only [List.all_cons, List.all_nil, Bool.and_true, Bool.and_self, beq_self_eq_true, resv1, List.length_map, ld_v3, ld_v1, binA_eql, binA_neq, binA_lss, binA_leq, binA_gtr, binA_geq, loadA_one, un_not, ld_ptr, st_ptr, putE1, objE_obj, Option.bind_some, cut1, cut3, cut4, nil_ptr, fa_ptr, g_lt, g_eq, g_sne, g_seq, new_n, box_n, List.getElem?_cons_zero, List.getElem?_cons_succ, ex0, ex1, Sh.size, cells_int, aok_int, cells_bool, aok_bool, cells_str, aok_str, cells_lst, aok_lst, cells_ptr, aok_ptr, cells_arr, aok_arr, cells_fn, aok_fn, cells_mref, aok_mref, cells_nilp, aok_nilp, cells_agg, shOk_n, shOk_s, lenA_lst, List.length_cons, List.length_nil, if_true, putAt, List.take_succ_cons, List.take_zero, List.drop_succ_cons, List.drop_zero, List.cons_append, List.nil_append, List.append_nil, Nat.zero_add, Nat.reduceAdd, Nat.reduceLeDiff, Nat.le_refl, List.drop_nil, List.take_nil, List.length_append, List.length_set, e50]; first | done | rfl) | rfl)); try dsimp only)
      rw [ifA_f]
      repeat ((with_reducible (first | apply bs | apply bsy)); (focus (first | (simp (disch := (first | assumption | omega | (simp only [List.length_append, List.length_set, List.length_cons, List.length_nil]; first | done | omega))) only [List.all_cons, List.all_nil, Bool.and_true, Bool.and_self, beq_self_eq_true, resv1, List.length_map, ld_v3, ld_v1, binA_eql, binA_neq, binA_lss, binA_leq, binA_gtr, binA_geq, loadA_one, un_not, ld_ptr, st_ptr, putE1, objE_obj, Option.bind_some, cut1, cut3, cut4, nil_ptr, fa_ptr, g_lt, g_eq, g_sne, g_seq, new_n, box_n, List.getElem?_cons_zero, List.getElem?_cons_succ, ex0, ex1, Sh.size, cells_int, aok_int, cells_bool, aok_bool, cells_str, aok_str, cells_lst, aok_lst, cells_ptr, aok_ptr, cells_arr, aok_arr, cells_fn, aok_fn, cells_mref, aok_mref, cells_nilp, aok_nilp, cells_agg, shOk_n, shOk_s, lenA_lst, List.length_cons, List.length_nil, if_true, putAt, List.take_succ_cons, List.take_zero, List.drop_succ_cons, List.drop_zero, List.cons_append, List.nil_append, List.append_nil, Nat.zero_add, Nat.reduceAdd, Nat.reduceLeDiff, Nat.le_refl, List.drop_nil, List.take_nil, List.length_append, List.length_set, e56]; first | done | rfl) | rfl)); try dsimp only)
      rw [hd, Bool.not_true, ifA_f]
      repeat ((with_reducible (first | apply bs | apply bsy)); (focus (first | (simp (disch := (first | assumption | omega | (simp only [List.length_append, List.length_set, List.length_cons, List.length_nil]; first | done | omega))) only [List.all_cons, List.all_nil, Bool.and_true, Bool.and_self, beq_self_eq_true, resv1, List.length_map, ld_v3, ld_v1, binA_eql, binA_neq, binA_lss, binA_leq, binA_gtr, binA_geq, loadA_one, un_not, ld_ptr, st_ptr, putE1, objE_obj, Option.bind_some, cut1, cut3, cut4, nil_ptr, fa_ptr, g_lt, g_eq, g_sne, g_seq, new_n, box_n, List.getElem?_cons_zero, List.getElem?_cons_succ, ex0, ex1, Sh.size, cells_int, aok_int, cells_bool, aok_bool, cells_str, aok_str, cells_lst, aok_lst, cells_ptr, aok_ptr, cells_arr, aok_arr, cells_fn, aok_fn, cells_mref, aok_mref, cells_nilp, aok_nilp, cells_agg, shOk_n, shOk_s, lenA_lst, List.length_cons, List.length_nil, if_true, putAt, List.take_succ_cons, List.take_zero, List.drop_succ_cons, List.drop_zero, List.cons_append, List.nil_append, List.append_nil, Nat.zero_add, Nat.reduceAdd, Nat.reduceLeDiff, Nat.le_refl, List.drop_nil, List.take_nil, List.length_append, List.length_set, hs, hidx, bx, c49, oka, cel]; first | done | rfl) | rfl)); try dsimp only)
      rfl
    obtain ⟨m', e, rfl⟩ := e
    refine ⟨_, by rw [hnv]; exact e, ((f1.snoc _).set _ (.inr (by omega))).set _ (.inr (by omega))⟩
  · have hd : decide (0 ≤ i ∧ i < l.length) = false := decide_eq_false hi
    have hnv : nodeV l i = (.agg [.int .i64 0, .lst none true .full [], .int .i64 0], 1) := by rw [nodeV, if_neg hi]
    have hb : buildA (.agg [(.int .i64 0), (.lst none true .full []), (.int .i64 0)]) [] = some (.agg [(.int .i64 0), (.lst none true .full []), (.int .i64 0)]) := rfl
    have sa := st_agg3 (m := m ++ [some (Ent.obj true [.int .i64 0, .lst none true .full [], .int .i64 0])]) (k := m.length) (a := .int .i64 0) (b := .lst none true .full []) (c := .int .i64 0) (by simp (disch := (first | assumption | omega | (simp only [List.length_append, List.length_set, List.length_cons, List.length_nil]; first | done | omega))) only [resv1, g_lt, g_eq, g_sne, g_seq]; first | done | rfl) (sh_i 0 0 true .full [])
    refine ⟨_, ?_, f1.set (k := m.length) (some (Ent.obj true [.int .i64 0, .lst none true .full [], .int .i64 0])) (.inr (Nat.le_refl _))⟩
    rw [T35, hnv]
    repeat ((with_reducible (first | apply bs | apply bsy)); (focus (first | (simp (disch := (first | assumption | omega | (simp only [List.length_append, List.length_set, List.length_cons, List.length_nil]; first | done | omega))) only [List.all_cons, List.all_nil, Bool.and_true, Bool.and_self, beq_self_eq_true, resv1, List.length_map, ld_v3, ld_v1, binA_eql, binA_neq, binA_lss, binA_leq, binA_gtr, binA_geq, loadA_one, un_not, ld_ptr, st_ptr, putE1, objE_obj, Option.bind_some, cut1, cut3, cut4, nil_ptr, fa_ptr, g_lt, g_eq, g_sne, g_seq, new_n, box_n, List.getElem?_cons_zero, List.getElem?_cons_succ, ex0, ex1, Sh.size, cells_int, aok_int, cells_bool, aok_bool, cells_str, aok_str, cells_lst, aok_lst, cells_ptr, aok_ptr, cells_arr, aok_arr, cells_fn, aok_fn, cells_mref, aok_mref, cells_nilp, aok_nilp, cells_agg, shOk_n, shOk_s, lenA_lst, List.length_cons, List.length_nil, if_true, putAt, List.take_succ_cons, List.take_zero, List.drop_succ_cons, List.drop_zero, List.cons_append, List.nil_append, List.append_nil, Nat.zero_add, Nat.reduceAdd, Nat.reduceLeDiff, Nat.le_refl, List.drop_nil, List.take_nil, List.length_append, List.length_set, e50]; first | done | rfl) | rfl)); try dsimp only)
    rw [ifA_f]
    repeat ((with_reducible (first | apply bs | apply bsy)); (focus (first | (simp (disch := (first | assumption | omega | (simp only [List.length_append, List.length_set, List.length_cons, List.length_nil]; first | done | omega))) only [List.all_cons, List.all_nil, Bool.and_true, Bool.and_self, beq_self_eq_true, resv1, List.length_map, ld_v3, ld_v1, binA_eql, binA_neq, binA_lss, binA_leq, binA_gtr, binA_geq, loadA_one, un_not, ld_ptr, st_ptr, putE1, objE_obj, Option.bind_some, cut1, cut3, cut4, nil_ptr, fa_ptr, g_lt, g_eq, g_sne, g_seq, new_n, box_n, List.getElem?_cons_zero, List.getElem?_cons_succ, ex0, ex1, Sh.size, cells_int, aok_int, cells_bool, aok_bool, cells_str, aok_str, cells_lst, aok_lst, cells_ptr, aok_ptr, cells_arr, aok_arr, cells_fn, aok_fn, cells_mref, aok_mref, cells_nilp, aok_nilp, cells_agg, shOk_n, shOk_s, lenA_lst, List.length_cons, List.length_nil, if_true, putAt, List.take_succ_cons, List.take_zero, List.drop_succ_cons, List.drop_zero, List.cons_append, List.nil_append, List.append_nil, Nat.zero_add, Nat.reduceAdd, Nat.reduceLeDiff, Nat.le_refl, List.drop_nil, List.take_nil, List.length_append, List.length_set, e56]; first | done | rfl) | rfl)); try dsimp only)
    rw [hd, Bool.not_false, ifA_t]
    repeat ((with_reducible (first | apply bs | apply bsy)); (focus (first | (simp (disch := (first | assumption | omega | (simp only [List.length_append, List.length_set, List.length_cons, List.length_nil]; first | done | omega))) only [List.all_cons, List.all_nil, Bool.and_true, Bool.and_self, beq_self_eq_true, resv1, List.length_map, ld_v3, ld_v1, binA_eql, binA_neq, binA_lss, binA_leq, binA_gtr, binA_geq, loadA_one, un_not, ld_ptr, st_ptr, putE1, objE_obj, Option.bind_some, cut1, cut3, cut4, nil_ptr, fa_ptr, g_lt, g_eq, g_sne, g_seq, new_n, box_n, List.getElem?_cons_zero, List.getElem?_cons_succ, ex0, ex1, Sh.size, cells_int, aok_int, cells_bool, aok_bool, cells_str, aok_str, cells_lst, aok_lst, cells_ptr, aok_ptr, cells_arr, aok_arr, cells_fn, aok_fn, cells_mref, aok_mref, cells_nilp, aok_nilp, cells_agg, shOk_n, shOk_s, lenA_lst, List.length_cons, List.length_nil, if_true, putAt, List.take_succ_cons, List.take_zero, List.drop_succ_cons, List.drop_zero, List.cons_append, List.nil_append, List.append_nil, Nat.zero_add, Nat.reduceAdd, Nat.reduceLeDiff, Nat.le_refl, List.drop_nil, List.take_nil, List.length_append, List.length_set, hb, sa]; first | done | rfl) | rfl)); try dsimp only)
/-! ### New -/
theorem A48 (k : Int) (m : Mem) : AC cfg 93 [.int .i64 k] m = some (.bool (!armB k), m) := by
  rw [T93, binA_lss, Option.bind_some, ifA_dec]
  by_cases h1 : k < 1
  · rw [if_pos h1, armB, decide_eq_false (by omega)]; rfl
  · rw [if_neg h1, binA_gtr, Option.bind_some, armB, ← decide_not]
    congr 3
    exact decide_eq_decide.2 (by omega)
theorem clA_IA (z : Bool) (ns : List Int) (h : z = true → ns = []) : ∃ z' o', clA z ns = IA z' o' ns ∧ (o' = .no ∨ o' = .full) ∧ (z' = true → ns = []) := by
  cases z with
  | true => rw [h rfl]; exact ⟨true, .full, rfl, .inr rfl, fun _ => rfl⟩
  | false =>
    cases ns with
    | nil => exact ⟨false, .full, rfl, .inr rfl, fun h => by cases h⟩
    | cons n ns => exact ⟨false, .no, rfl, .inl rfl, fun h => by cases h⟩
theorem A14 (m : Mem) (z : Bool) (o : Own) (ns : List Int) (hz : z = true → ns = []) (he : armsE ns = 0) :
    ∃ m' s F z' o', AC cfg 32 [IA z o ns] m = some (.tup [.ptr s 0, .int .i64 0], m') ∧ St8 m' s F (IA z' o' ns) 4000 [] ∧ Fr m m' [] ∧ (∀ x ∈ F, m.length ≤ x) := by
  obtain ⟨h1, h2⟩ := armsE_ok he
  obtain ⟨m1, e47, f1⟩ := A47 (m := m) (z := z) (o := o) (ks := ns) (g := 93) (caps := []) (p := fun k => !armB k) (by omega) rfl rfl rfl (fun m1 k _ => ⟨m1, A48 k m1, Fr.refl _ _⟩)
  have ha : ns.all armB = true := List.all_eq_true.2 fun a ha => decide_eq_true (h2 a ha)
  rw [any_not, ha, Bool.not_true] at e47
  obtain ⟨z', o', ec, _, _⟩ := clA_IA z ns hz
  have c49 := fun m => pc49 z o ns (by omega) m
  rw [ec] at c49
  have l1 := f1.len
  refine ⟨(m1 ++ [some (Ent.mp .str [])]) ++ [some (Ent.obj true [IA z' o' ns, .lst none true .full [], .mref m1.length, .int .i64 4000])], m1.length + 1, [m1.length + 1, m1.length], z', o', ?_, ?_, (f1.snoc _).snoc _, ?_⟩
  · have hb : buildA (.agg [(.lst none true .full []), (.lst none true .full []), .nilm, (.int .i64 0)]) [(0, none, IA z' o' ns), (2, none, (.mref m1.length)), (3, none, (.int .i64 4000))] = some (.agg [IA z' o' ns, .lst none true .full [], .mref m1.length, .int .i64 4000]) := rfl
    have hx : ∀ m, boxA none (some 4) m (.agg [IA z' o' ns, .lst none true .full [], .mref m1.length, .int .i64 4000]) = some (.ptr m.length 0, m ++ [some (Ent.obj true [IA z' o' ns, .lst none true .full [], .mref m1.length, .int .i64 4000])]) := fun m => rfl
    rw [T32, len_IA, Option.bind_some, binA_gtr, Option.bind_some, ifA_dec, if_neg (by omega), e47, Option.bind_some, ifA_f]
    repeat ((with_reducible (first | apply bs | apply bsy)); (focus (first | (simp (disch := (first | assumption | omega | (simp only [List.length_append, List.length_set, List.length_cons, List.length_nil]; first | done | omega))) only [List.all_cons, List.all_nil, Bool.and_true, Bool.and_self, beq_self_eq_true, resv1, List.length_map, ld_v3, ld_v1, binA_eql, binA_neq, binA_lss, binA_leq, binA_gtr, binA_geq, loadA_one, un_not, ld_ptr, st_ptr, putE1, objE_obj, Option.bind_some, cut1, cut3, cut4, nil_ptr, fa_ptr, g_lt, g_eq, g_sne, g_seq, new_n, box_n, List.getElem?_cons_zero, List.getElem?_cons_succ, ex0, ex1, Sh.size, cells_int, aok_int, cells_bool, aok_bool, cells_str, aok_str, cells_lst, aok_lst, cells_ptr, aok_ptr, cells_arr, aok_arr, cells_fn, aok_fn, cells_mref, aok_mref, cells_nilp, aok_nilp, cells_agg, shOk_n, shOk_s, lenA_lst, List.length_cons, List.length_nil, if_true, putAt, List.take_succ_cons, List.take_zero, List.drop_succ_cons, List.drop_zero, List.cons_append, List.nil_append, List.append_nil, Nat.zero_add, Nat.reduceAdd, Nat.reduceLeDiff, Nat.le_refl, List.drop_nil, List.take_nil, List.length_append, List.length_set, c49, hb, hx]; first | done | rfl) | rfl)); try dsimp only)
  · refine ⟨m1.length, .lst none true .full [], [], ⟨(by simp (disch := (first | assumption | omega | (simp only [List.length_append, List.length_set, List.length_cons, List.length_nil]; first | done | omega))) only [resv1, g_lt, g_eq, g_sne, g_seq]; first | done | rfl), (by simp (disch := (first | assumption | omega | (simp only [List.length_append, List.length_set, List.length_cons, List.length_nil]; first | done | omega))) only [resv1, g_lt, g_eq, g_sne, g_seq]; first | done | rfl), .none, by simp, by omega, by simp⟩, rfl⟩
  · intro x hx
    simp only [List.mem_cons, List.not_mem_nil, or_false] at hx
    omega
/-! ### alive -/
theorem V13 : AP cfg 13 [] = some (.bool true) := by
  have key : ∃ m', AC cfg 13 [] [] = some (.bool true, m') := by
    obtain ⟨m1, s, F, z', o', e1, h1, _, _⟩ := A14 [] false .full [2] (fun h => by cases h) (by decide)
    obtain ⟨m2, F2, e2, h2, _, _⟩ := A15 h1 7 (by decide) (by omega)
    have hr : leafR [] 7 = ((0, 0), [leafN 7]) := by decide
    rw [hr] at e2 h2
    obtain ⟨m3, e3, f3⟩ := A21 h2 (by omega) (by intro n hn hv; obtain rfl : n = leafN 7 := by simpa using hn
                                                 exact absurd (show (leafN 7).var < 0 by decide) hv) 0
    have hnv : nodeV [leafN 7] 0 = (.agg [.int .i64 (-1), .lst none true .full [], .int .i64 7], 0) := rfl
    rw [hnv] at e3
    have e1 : AC cfg 32 [.lst none false .full [.int .i64 2]] [] = _ := e1
    have sa := st_agg3 (m := m3 ++ [some (Ent.obj true [.int .i64 0, .lst none true .full [], .int .i64 0])]) (k := m3.length) (a := .int .i64 0) (b := .lst none true .full []) (c := .int .i64 0) (by simp (disch := (first | assumption | omega | (simp only [List.length_append, List.length_set, List.length_cons, List.length_nil]; first | done | omega))) only [resv1, g_lt, g_eq, g_sne, g_seq]; first | done | rfl) (sh_i (-1) 7 true .full [])
    refine ⟨List.set (m3 ++ [some (Ent.obj true [.int .i64 0, .lst none true .full [], .int .i64 0])]) m3.length (some (Ent.obj true [.int .i64 (-1), .lst none true .full [], .int .i64 7])), ?_⟩
    rw [T13, show buildSliceA none [(.int .i64 2)] = some (.lst none false .full [.int .i64 2]) from rfl, Option.bind_some]
    repeat ((with_reducible (first | apply bs | apply bsy)); (focus (first | (simp (disch := (first | assumption | omega | (simp only [List.length_append, List.length_set, List.length_cons, List.length_nil]; first | done | omega))) only [List.all_cons, List.all_nil, Bool.and_true, Bool.and_self, beq_self_eq_true, resv1, List.length_map, ld_v3, ld_v1, binA_eql, binA_neq, binA_lss, binA_leq, binA_gtr, binA_geq, loadA_one, un_not, ld_ptr, st_ptr, putE1, objE_obj, Option.bind_some, cut1, cut3, cut4, nil_ptr, fa_ptr, g_lt, g_eq, g_sne, g_seq, new_n, box_n, List.getElem?_cons_zero, List.getElem?_cons_succ, ex0, ex1, Sh.size, cells_int, aok_int, cells_bool, aok_bool, cells_str, aok_str, cells_lst, aok_lst, cells_ptr, aok_ptr, cells_arr, aok_arr, cells_fn, aok_fn, cells_mref, aok_mref, cells_nilp, aok_nilp, cells_agg, shOk_n, shOk_s, lenA_lst, List.length_cons, List.length_nil, if_true, putAt, List.take_succ_cons, List.take_zero, List.drop_succ_cons, List.drop_zero, List.cons_append, List.nil_append, List.append_nil, Nat.zero_add, Nat.reduceAdd, Nat.reduceLeDiff, Nat.le_refl, List.drop_nil, List.take_nil, List.length_append, List.length_set, e1]; first | done | rfl) | rfl)); try dsimp only)
    rw [decide_eq_false (by decide), ifA_f, show binA .pt .eql (.ptr s 0) .nilp = some (.bool false) from rfl, Option.bind_some, ifA_f]
    repeat ((with_reducible (first | apply bs | apply bsy)); (focus (first | (simp (disch := (first | assumption | omega | (simp only [List.length_append, List.length_set, List.length_cons, List.length_nil]; first | done | omega))) only [List.all_cons, List.all_nil, Bool.and_true, Bool.and_self, beq_self_eq_true, resv1, List.length_map, ld_v3, ld_v1, binA_eql, binA_neq, binA_lss, binA_leq, binA_gtr, binA_geq, loadA_one, un_not, ld_ptr, st_ptr, putE1, objE_obj, Option.bind_some, cut1, cut3, cut4, nil_ptr, fa_ptr, g_lt, g_eq, g_sne, g_seq, new_n, box_n, List.getElem?_cons_zero, List.getElem?_cons_succ, ex0, ex1, Sh.size, cells_int, aok_int, cells_bool, aok_bool, cells_str, aok_str, cells_lst, aok_lst, cells_ptr, aok_ptr, cells_arr, aok_arr, cells_fn, aok_fn, cells_mref, aok_mref, cells_nilp, aok_nilp, cells_agg, shOk_n, shOk_s, lenA_lst, List.length_cons, List.length_nil, if_true, putAt, List.take_succ_cons, List.take_zero, List.drop_succ_cons, List.drop_zero, List.cons_append, List.nil_append, List.append_nil, Nat.zero_add, Nat.reduceAdd, Nat.reduceLeDiff, Nat.le_refl, List.drop_nil, List.take_nil, List.length_append, List.length_set, e2, e3, sa]; first | done | rfl) | rfl)); try dsimp only)
    rw [decide_eq_true (by decide), ifA_t]
    repeat ((with_reducible (first | apply bs | apply bsy)); (focus (first | (simp (disch := (first | assumption | omega | (simp only [List.length_append, List.length_set, List.length_cons, List.length_nil]; first | done | omega))) only [List.all_cons, List.all_nil, Bool.and_true, Bool.and_self, beq_self_eq_true, resv1, List.length_map, ld_v3, ld_v1, binA_eql, binA_neq, binA_lss, binA_leq, binA_gtr, binA_geq, loadA_one, un_not, ld_ptr, st_ptr, putE1, objE_obj, Option.bind_some, cut1, cut3, cut4, nil_ptr, fa_ptr, g_lt, g_eq, g_sne, g_seq, new_n, box_n, List.getElem?_cons_zero, List.getElem?_cons_succ, ex0, ex1, Sh.size, cells_int, aok_int, cells_bool, aok_bool, cells_str, aok_str, cells_lst, aok_lst, cells_ptr, aok_ptr, cells_arr, aok_arr, cells_fn, aok_fn, cells_mref, aok_mref, cells_nilp, aok_nilp, cells_agg, shOk_n, shOk_s, lenA_lst, List.length_cons, List.length_nil, if_true, putAt, List.take_succ_cons, List.take_zero, List.drop_succ_cons, List.drop_zero, List.cons_append, List.nil_append, List.append_nil, Nat.zero_add, Nat.reduceAdd, Nat.reduceLeDiff, Nat.le_refl, List.drop_nil, List.take_nil, List.length_append, List.length_set]; first | done | rfl) | rfl)); try dsimp only)
    rw [decide_eq_true (by decide), ifA_t]
    repeat ((with_reducible (first | apply bs | apply bsy)); (focus (first | (simp (disch := (first | assumption | omega | (simp only [List.length_append, List.length_set, List.length_cons, List.length_nil]; first | done | omega))) only [List.all_cons, List.all_nil, Bool.and_true, Bool.and_self, beq_self_eq_true, resv1, List.length_map, ld_v3, ld_v1, binA_eql, binA_neq, binA_lss, binA_leq, binA_gtr, binA_geq, loadA_one, un_not, ld_ptr, st_ptr, putE1, objE_obj, Option.bind_some, cut1, cut3, cut4, nil_ptr, fa_ptr, g_lt, g_eq, g_sne, g_seq, new_n, box_n, List.getElem?_cons_zero, List.getElem?_cons_succ, ex0, ex1, Sh.size, cells_int, aok_int, cells_bool, aok_bool, cells_str, aok_str, cells_lst, aok_lst, cells_ptr, aok_ptr, cells_arr, aok_arr, cells_fn, aok_fn, cells_mref, aok_mref, cells_nilp, aok_nilp, cells_agg, shOk_n, shOk_s, lenA_lst, List.length_cons, List.length_nil, if_true, putAt, List.take_succ_cons, List.take_zero, List.drop_succ_cons, List.drop_zero, List.cons_append, List.nil_append, List.append_nil, Nat.zero_add, Nat.reduceAdd, Nat.reduceLeDiff, Nat.le_refl, List.drop_nil, List.take_nil, List.length_append, List.length_set]; first | done | rfl) | rfl)); try dsimp only)
    rw [decide_eq_true (by decide), ifA_t]
    repeat ((with_reducible (first | apply bs | apply bsy)); (focus (first | (simp (disch := (first | assumption | omega | (simp only [List.length_append, List.length_set, List.length_cons, List.length_nil]; first | done | omega))) only [List.all_cons, List.all_nil, Bool.and_true, Bool.and_self, beq_self_eq_true, resv1, List.length_map, ld_v3, ld_v1, binA_eql, binA_neq, binA_lss, binA_leq, binA_gtr, binA_geq, loadA_one, un_not, ld_ptr, st_ptr, putE1, objE_obj, Option.bind_some, cut1, cut3, cut4, nil_ptr, fa_ptr, g_lt, g_eq, g_sne, g_seq, new_n, box_n, List.getElem?_cons_zero, List.getElem?_cons_succ, ex0, ex1, Sh.size, cells_int, aok_int, cells_bool, aok_bool, cells_str, aok_str, cells_lst, aok_lst, cells_ptr, aok_ptr, cells_arr, aok_arr, cells_fn, aok_fn, cells_mref, aok_mref, cells_nilp, aok_nilp, cells_agg, shOk_n, shOk_s, lenA_lst, List.length_cons, List.length_nil, if_true, putAt, List.take_succ_cons, List.take_zero, List.drop_succ_cons, List.drop_zero, List.cons_append, List.nil_append, List.append_nil, Nat.zero_add, Nat.reduceAdd, Nat.reduceLeDiff, Nat.le_refl, List.drop_nil, List.take_nil, List.length_append, List.length_set]; first | done | rfl) | rfl)); try dsimp only)
    rfl
  obtain ⟨m', e⟩ := key
  unfold AP acallP
  rw [e]
  rfl
theorem pc13 (d : Option Nat) (m : Mem) : pcall (AP cfg) d m 13 [] = some (.bool true, m) := by rw [pcall0, V13]; rfl
end
/-! ### into -/
/-- A row of nodes that is appended to, of elements of type e. -/
inductive NR (e : Nat) (m : Mem) : AV → List ND → List Nat → Prop
  | none : NR e m (.lst none true .full []) [] []
  | some (t : Nat) (l : List ND) (ht : m.get t = some (.tok l.length 3)) : NR e m (.lst (some 3) false (.tok t e) (l.map ND.av)) l [t]
end Go.Ab

/- Two rows of whole numbers are held together, by value. -/
set_option linter.unusedVariables false
set_option linter.unusedSimpArgs false
set_option linter.unusedSectionVars false
set_option maxRecDepth 100000
namespace Go.Ab
open Go.Proofs Go.Proofs.Tryz

theorem W33 {z1 z2 : Bool} {o1 o2 : Own} {k1 k2 : List Int} (hl : k1.length = k2.length) (hl2 : k1.length ≤ 100000) (m : Mem) : ∀ j i : Nat, i + j = k1.length →
    L27_4 (IA z1 o1 k1) (IA z2 o2 k2) (.int .i64 k1.length) (.int .i64 i) m (K27_4 (finK cfg.P f27.results.toList)) = some (.bool (decide (k1.drop i = k2.drop i)), m)
  | 0, i, h => by
    rw [L27_4_eq, binA_lss, Option.bind_some, ifA_dec, if_neg (by omega), List.drop_eq_nil_of_le (by omega), List.drop_eq_nil_of_le (by omega), K27_4_x0]; rfl
  | j + 1, i, h => by
    have hi : i < k1.length := by omega
    have hi2 : i < k2.length := by omega
    have ih := W33 (z1 := z1) (z2 := z2) (o1 := o1) (o2 := o2) hl hl2 m j (i + 1) (by omega)
    rw [L27_4_eq, binA_lss, Option.bind_some, ifA_dec, if_pos (by omega), idx_IA hi, Option.bind_some, loadA_one, Option.bind_some, idx_IA hi2, Option.bind_some, loadA_one, Option.bind_some, binA_neq, Option.bind_some, ifA_dec, List.drop_eq_getElem_cons hi, List.drop_eq_getElem_cons hi2]
    by_cases he : k1[i] = k2[i]
    · rw [if_neg (by simpa using he), i_add1 (by omega), Option.bind_some, ih]
      congr 3
      exact decide_eq_decide.2 (by rw [he]; exact ⟨fun e => by rw [e], fun e => (List.cons.inj e).2⟩)
    · rw [if_pos he, K27_4_ret]
      congr 3
      exact (decide_eq_false (fun e => he (List.cons.inj e).1)).symm
theorem V33 (z1 z2 : Bool) (o1 o2 : Own) (k1 k2 : List Int) (hl2 : k1.length ≤ 100000) : AP cfg 27 [IA z1 o1 k1, IA z2 o2 k2] = some (.bool (decide (k1 = k2))) := by
  refine AP_of (m := []) (v := .bool (decide (k1 = k2))) (l := []) ?_ rfl rfl
  rw [T27, len_IA, Option.bind_some, len_IA, Option.bind_some, binA_neq, Option.bind_some, ifA_dec]
  by_cases hl : k1.length = k2.length
  · rw [if_neg (by omega), Option.bind_some, show (AV.int .i64 0) = .int .i64 ((0 : Nat) : Int) from rfl, W33 hl hl2 [] k1.length 0 (by omega), List.drop_zero, List.drop_zero]
  · rw [if_pos (by omega)]
    congr 3
    exact (decide_eq_false (fun e => hl (by rw [e]))).symm
theorem pc33 (z1 z2 : Bool) (o1 o2 : Own) (k1 k2 : List Int) (hl2 : k1.length ≤ 100000) (m : Mem) : pcall (AP cfg) none m 27 [IA z1 o1 k1, IA z2 o2 k2] = some (.bool (decide (k1 = k2)), m) := by
  rw [pcall2 (fz_IA z1 o1 k1) (fz_IA z2 o2 k2), V33 z1 z2 _ _ k1 k2 hl2]; rfl
end Go.Ab

/- What the interpreter does, function by function. -/
set_option maxRecDepth 100000
set_option linter.unusedVariables false
namespace Go.Ab
open Go.Proofs.Tryz
/-! ### (*sortilege/diagram.Store).Eval -/
noncomputable def L36_6 (x0 x1 x2 x26 x27 x28 : AV) (m : Mem) (K : Ex → St → Option (AV × Mem)) : Option (AV × Mem) := loopW (execW cfg 36 (AP cfg) (AC cfg) (c1 (c1 (c2 (c1 (c2 (c2 (c2 (bodyOf f36))))))))) (cfg.mask 36 (some 6)) ⟨[x0, x1, x2, .any, .any, .any, .any, .any, .any, .any, .any, .any, .any, .any, .any, .any, .any, .any, .any, .any, .any, .any, .any, .any, .any, .any, x26, x27, x28, .any, .any, .any, .any, .any, .any, .any, .any, .any, .any, .any, .any, .any, .any, .any, .any, .any, .any, .any, .any, .any, .any, .any, .any, .any, .any, .any, .any, .any, .any, .any, .any, .any, .any, .any, .any, .any, .any, .any, .any, .any, .any, .any, .any, .any, .any, .any, .any, .any, .any, .any, .any, .any, .any, .any, .any], m⟩ K
noncomputable abbrev K36_6_0 (K : Ex → St → Option (AV × Mem)) : Ex → St → Option (AV × Mem) := seqK (fun st => execW cfg 36 (AP cfg) (AC cfg) (c2 (c2 (c2 (c2 (bodyOf f36))))) st K) K
noncomputable abbrev K36_6_1 (K : Ex → St → Option (AV × Mem)) : Ex → St → Option (AV × Mem) := blockK 0 (K36_6_0 K)
noncomputable abbrev K36_6 (K : Ex → St → Option (AV × Mem)) : Ex → St → Option (AV × Mem) := (K36_6_1 K)
theorem T36 (a0 a1 a2 : AV) (m : Mem) : AC cfg 36 [a0, a1, a2] m =
  (AC cfg 80 [a0] m).bind fun r1 =>
  ifA r1.1 (
  some ((.tup [(.int .i64 0), (.int .i64 4)]), r1.2)) (
  (AC cfg 81 [a0, a1] r1.2).bind fun r2 =>
  (unA .not r2.1).bind fun v3 =>
  ifA v3 (
  some ((.tup [(.int .i64 0), (.int .i64 1)]), r2.2)) (
  (lenA false a2).bind fun v4 =>
  (nilA a0).bind fun v5 =>
  (fieldAddrA 0 v5).bind fun v6 =>
  (loadA none r2.2 v6).bind fun v7 =>
  (lenA false v7).bind fun v8 =>
  (binA .other .neq v4 v8).bind fun v9 =>
  ifA v9 (
  some ((.tup [(.int .i64 0), (.int .i64 1)]), r2.2)) (
  (lenA false a2).bind fun v10 =>
  L36_6 a0 a1 a2 a2 v10 (.int .i64 0) r2.2 (K36_6 (finK cfg.P f36.results.toList))))) :=
(AC_eq cfg 36 [a0, a1, a2] m (fn := f36) (c := bodyOf f36) at36 rfl).trans (by kernel_rfl)
/-! ### (*sortilege/diagram.Store).Apply -/
theorem T37 (a0 a1 a2 a3 : AV) (m : Mem) : AC cfg 37 [a0, a1, a2, a3] m =
  (boxA none none m a0).bind fun r1 =>
  (boxA none none r1.2 a1).bind fun r2 =>
  (boxA none none r2.2 a2).bind fun r3 =>
  (boxA none none r3.2 a3).bind fun r4 =>
  (loadA none r4.2 r1.1).bind fun v5 =>
  (AC cfg 80 [v5] r4.2).bind fun r6 =>
  ifA r6.1 (
  some ((.tup [(.int .i64 0), (.int .i64 4)]), r6.2)) (
  (loadA none r6.2 r1.1).bind fun v7 =>
  (loadA none r6.2 r2.1).bind fun v8 =>
  (AC cfg 81 [v7, v8] r6.2).bind fun r9 =>
  (unA .not r9.1).bind fun v10 =>
  ifA v10 (
  some ((.tup [(.int .i64 0), (.int .i64 1)]), r9.2)) (
  (loadA none r9.2 r1.1).bind fun v11 =>
  (loadA none r9.2 r3.1).bind fun v12 =>
  (AC cfg 81 [v11, v12] r9.2).bind fun r13 =>
  (unA .not r13.1).bind fun v14 =>
  ifA v14 (
  some ((.tup [(.int .i64 0), (.int .i64 1)]), r13.2)) (
  (loadA none r13.2 r4.1).bind fun v15 =>
  (binA .fu .eql v15 .nilf).bind fun v16 =>
  ifA v16 (
  some ((.tup [(.int .i64 0), (.int .i64 1)]), r13.2)) (
  (loadA none r13.2 r1.1).bind fun v17 =>
  (AC cfg 84 [v17, (.fn 100 [r1.1, r2.1, r3.1, r4.1])] r13.2).bind fun r18 =>
  (extractA r18.1 0).bind fun v19 =>
  (extractA r18.1 1).bind fun v20 =>
  some ((.tup [v19, v20]), r18.2))))) :=
(AC_eq cfg 37 [a0, a1, a2, a3] m (fn := f37) (c := bodyOf f37) at37 rfl).trans (by kernel_rfl)
/-! ### (*sortilege/diagram.Store).Restrict -/
theorem T39 (a0 a1 a2 a3 : AV) (m : Mem) : AC cfg 39 [a0, a1, a2, a3] m =
  (boxA none none m a0).bind fun r1 =>
  (boxA none none r1.2 a1).bind fun r2 =>
  (boxA none none r2.2 a2).bind fun r3 =>
  (boxA none none r3.2 a3).bind fun r4 =>
  (loadA none r4.2 r1.1).bind fun v5 =>
  (AC cfg 80 [v5] r4.2).bind fun r6 =>
  ifA r6.1 (
  some ((.tup [(.int .i64 0), (.int .i64 4)]), r6.2)) (
  (loadA none r6.2 r1.1).bind fun v7 =>
  (loadA none r6.2 r2.1).bind fun v8 =>
  (AC cfg 81 [v7, v8] r6.2).bind fun r9 =>
  (unA .not r9.1).bind fun v10 =>
  ifA v10 (
  some ((.tup [(.int .i64 0), (.int .i64 1)]), r9.2)) (
  (loadA none r9.2 r3.1).bind fun v11 =>
  (binA .other .lss v11 (.int .i64 0)).bind fun v12 =>
  ifA v12 (
  some ((.tup [(.int .i64 0), (.int .i64 1)]), r9.2)) (
  (loadA none r9.2 r3.1).bind fun v13 =>
  (loadA none r9.2 r1.1).bind fun v14 =>
  (nilA v14).bind fun v15 =>
  (fieldAddrA 0 v15).bind fun v16 =>
  (loadA none r9.2 v16).bind fun v17 =>
  (lenA false v17).bind fun v18 =>
  (binA .other .geq v13 v18).bind fun v19 =>
  ifA v19 (
  some ((.tup [(.int .i64 0), (.int .i64 1)]), r9.2)) (
  (loadA none r9.2 r4.1).bind fun v20 =>
  (binA .other .lss v20 (.int .i64 0)).bind fun v21 =>
  ifA v21 (
  some ((.tup [(.int .i64 0), (.int .i64 1)]), r9.2)) (
  (loadA none r9.2 r4.1).bind fun v22 =>
  (loadA none r9.2 r1.1).bind fun v23 =>
  (nilA v23).bind fun v24 =>
  (fieldAddrA 0 v24).bind fun v25 =>
  (loadA none r9.2 v25).bind fun v26 =>
  (loadA none r9.2 r3.1).bind fun v27 =>
  (indexAddrA none v26 v27).bind fun v28 =>
  (loadA none r9.2 v28).bind fun v29 =>
  (binA .other .geq v22 v29).bind fun v30 =>
  ifA v30 (
  some ((.tup [(.int .i64 0), (.int .i64 1)]), r9.2)) (
  (loadA none r9.2 r1.1).bind fun v31 =>
  (AC cfg 84 [v31, (.fn 102 [r1.1, r2.1, r3.1, r4.1])] r9.2).bind fun r32 =>
  (extractA r32.1 0).bind fun v33 =>
  (extractA r32.1 1).bind fun v34 =>
  some ((.tup [v33, v34]), r32.2))))))) :=
(AC_eq cfg 39 [a0, a1, a2, a3] m (fn := f39) (c := bodyOf f39) at39 rfl).trans (by kernel_rfl)
/-! ### (*sortilege/diagram.Store).Support -/
theorem T40 (a0 a1 : AV) (m : Mem) : AC cfg 40 [a0, a1] m =
  (AC cfg 104 [a0, a1, (.fn 105 [])] m).bind fun r1 =>
  (extractA r1.1 0).bind fun v2 =>
  (extractA r1.1 1).bind fun v3 =>
  some ((.tup [v2, v3]), r1.2) :=
(AC_eq cfg 40 [a0, a1] m (fn := f40) (c := bodyOf f40) at40 rfl).trans (by kernel_rfl)
/-! ### (*sortilege/diagram.Store).Leaves -/
theorem T41 (a0 a1 : AV) (m : Mem) : AC cfg 41 [a0, a1] m =
  (AC cfg 104 [a0, a1, (.fn 106 [])] m).bind fun r1 =>
  (extractA r1.1 0).bind fun v2 =>
  (extractA r1.1 1).bind fun v3 =>
  some ((.tup [v2, v3]), r1.2) :=
(AC_eq cfg 41 [a0, a1] m (fn := f41) (c := bodyOf f41) at41 rfl).trans (by kernel_rfl)
/-! ### (*sortilege/diagram.Store).Size -/
theorem T42 (a0 a1 : AV) (m : Mem) : AC cfg 42 [a0, a1] m =
  (AC cfg 80 [a0] m).bind fun r1 =>
  ifA r1.1 (
  some ((.tup [(.int .i64 0), (.int .i64 4)]), r1.2)) (
  (AC cfg 81 [a0, a1] r1.2).bind fun r2 =>
  (unA .not r2.1).bind fun v3 =>
  ifA v3 (
  some ((.tup [(.int .i64 0), (.int .i64 1)]), r2.2)) (
  (AC cfg 65 [a0, a1] r2.2).bind fun r4 =>
  (lenA false r4.1).bind fun v5 =>
  some ((.tup [v5, (.int .i64 0)]), r4.2))) :=
(AC_eq cfg 42 [a0, a1] m (fn := f42) (c := bodyOf f42) at42 rfl).trans (by kernel_rfl)
/-! ### (*sortilege/diagram.Store).Weigh -/
theorem T17 (a0 a1 a2 : AV) (m : Mem) : AC cfg 17 [a0, a1, a2] m =
  (boxA none none m a0).bind fun r1 =>
  (loadA none r1.2 r1.1).bind fun v2 =>
  (AC cfg 41 [v2, a1] r1.2).bind fun r3 =>
  (extractA r3.1 0).bind fun v4 =>
  (extractA r3.1 1).bind fun v5 =>
  (binA .other .neq v5 (.int .i64 0)).bind fun v6 =>
  ifA v6 (
  some ((.tup [(.lst none true .full []), v5]), r3.2)) (
  (loadA none r3.2 r1.1).bind fun v7 =>
  (nilA v7).bind fun v8 =>
  (fieldAddrA 0 v8).bind fun v9 =>
  (loadA none r3.2 v9).bind fun v10 =>
  (pcall (AP cfg) none r3.2 63 [v10, a2]).bind fun r11 =>
  (unA .not r11.1).bind fun v12 =>
  ifA v12 (
  some ((.tup [(.lst none true .full []), (.int .i64 1)]), r11.2)) (
  (pcall (AP cfg) none (newAt none r11.2 (.mp (.int .i64) [])).2 64 []).bind fun r13 =>
  none)) :=
(AC_eq cfg 17 [a0, a1, a2] m (fn := f17) (c := bodyOf f17) at17 rfl).trans (by kernel_rfl)
/-! ### (*sortilege/diagram.Store).Reorder -/
noncomputable def L24_7 (x0 x4 x5 x9 x36 x37 x38 : AV) (m : Mem) (K : Ex → St → Option (AV × Mem)) : Option (AV × Mem) := loopW (execW cfg 24 (AP cfg) (AC cfg) (c1 (c1 (c2 (c1 (c2 (c2 (c2 (c2 (bodyOf f24)))))))))) (cfg.mask 24 (some 7)) ⟨[x0, .any, .any, .any, x4, x5, .any, .any, .any, x9, .any, .any, .any, .any, .any, .any, .any, .any, .any, .any, .any, .any, .any, .any, .any, .any, .any, .any, .any, .any, .any, .any, .any, .any, .any, .any, x36, x37, x38, .any, .any, .any, .any, .any, .any, .any, .any, .any, .any, .any, .any, .any, .any, .any, .any, .any, .any, .any, .any, .any, .any, .any, .any, .any, .any, .any, .any, .any, .any, .any, .any, .any], m⟩ K
noncomputable abbrev K24_7_0 (K : Ex → St → Option (AV × Mem)) : Ex → St → Option (AV × Mem) := seqK (fun st => execW cfg 24 (AP cfg) (AC cfg) (c2 (c2 (c2 (c2 (c2 (bodyOf f24)))))) st K) K
noncomputable abbrev K24_7_1 (K : Ex → St → Option (AV × Mem)) : Ex → St → Option (AV × Mem) := blockK 0 (K24_7_0 K)
noncomputable abbrev K24_7 (K : Ex → St → Option (AV × Mem)) : Ex → St → Option (AV × Mem) := (K24_7_1 K)
theorem T24 (a0 a1 a2 : AV) (m : Mem) : AC cfg 24 [a0, a1, a2] m =
  (boxA none none m a1).bind fun r1 =>
  (boxA none none r1.2 a2).bind fun r2 =>
  (AC cfg 80 [a0] r2.2).bind fun r3 =>
  ifA r3.1 (
  some ((.tup [.nilp, (.int .i64 0), (.int .i64 4)]), r3.2)) (
  (loadA none r3.2 r1.1).bind fun v4 =>
  (AC cfg 81 [a0, v4] r3.2).bind fun r5 =>
  (unA .not r5.1).bind fun v6 =>
  ifA v6 (
  some ((.tup [.nilp, (.int .i64 0), (.int .i64 1)]), r5.2)) (
  (loadA none r5.2 r2.1).bind fun v7 =>
  (nilA a0).bind fun v8 =>
  (fieldAddrA 0 v8).bind fun v9 =>
  (loadA none r5.2 v9).bind fun v10 =>
  (lenA false v10).bind fun v11 =>
  (pcall (AP cfg) none r5.2 82 [v7, v11]).bind fun r12 =>
  (unA .not r12.1).bind fun v13 =>
  ifA v13 (
  some ((.tup [.nilp, (.int .i64 0), (.int .i64 1)]), r12.2)) (
  (loadA none r12.2 r2.1).bind fun v14 =>
  (lenA false v14).bind fun v15 =>
  (makeA none 3 none (.int .i64 0) 8 r12.2 v15 v15).bind fun r16 =>
  (loadA none r16.2 r2.1).bind fun v17 =>
  (lenA false v17).bind fun v18 =>
  L24_7 a0 r1.1 r2.1 r16.1 v17 v18 (.int .i64 0) r16.2 (K24_7 (finK cfg.P f24.results.toList))))) :=
(AC_eq cfg 24 [a0, a1, a2] m (fn := f24) (c := bodyOf f24) at24 rfl).trans (by kernel_rfl)
/-! ### (*sortilege/diagram.Store).List -/
noncomputable def L43_8 (x0 x6 x7 x22 x23 x24 : AV) (m : Mem) (K : Ex → St → Option (AV × Mem)) : Option (AV × Mem) := loopW (execW cfg 43 (AP cfg) (AC cfg) (c1 (c1 (c2 (c1 (c2 (c2 (c2 (c2 (c2 (bodyOf f43))))))))))) (cfg.mask 43 (some 8)) ⟨[x0, .any, .any, .any, .any, .any, x6, x7, .any, .any, .any, .any, .any, .any, .any, .any, .any, .any, .any, .any, .any, .any, x22, x23, x24, .any, .any, .any, .any, .any, .any, .any, .any, .any, .any, .any, .any, .any, .any, .any, .any, .any, .any, .any, .any, .any, .any, .any, .any, .any, .any, .any, .any, .any, .any, .any, .any, .any, .any, .any, .any, .any, .any, .any, .any, .any, .any, .any, .any, .any, .any, .any, .any, .any, .any, .any, .any], m⟩ K
noncomputable abbrev K43_8_0 (K : Ex → St → Option (AV × Mem)) : Ex → St → Option (AV × Mem) := seqK (fun st => execW cfg 43 (AP cfg) (AC cfg) (c2 (c2 (c2 (c2 (c2 (c2 (bodyOf f43))))))) st K) K
noncomputable abbrev K43_8_1 (K : Ex → St → Option (AV × Mem)) : Ex → St → Option (AV × Mem) := blockK 0 (K43_8_0 K)
noncomputable abbrev K43_8 (K : Ex → St → Option (AV × Mem)) : Ex → St → Option (AV × Mem) := (K43_8_1 K)
theorem T43 (a0 a1 : AV) (m : Mem) : AC cfg 43 [a0, a1] m =
  (AC cfg 80 [a0] m).bind fun r1 =>
  ifA r1.1 (
  some ((.tup [(.lst none true .full []), (.int .i64 4)]), r1.2)) (
  (AC cfg 81 [a0, a1] r1.2).bind fun r2 =>
  (unA .not r2.1).bind fun v3 =>
  ifA v3 (
  some ((.tup [(.lst none true .full []), (.int .i64 1)]), r2.2)) (
  (AC cfg 65 [a0, a1] (newAt none r2.2 (.mp (.int .i64) [])).2).bind fun r4 =>
  (lenA false r4.1).bind fun v5 =>
  L43_8 a0 (.mref (newAt none r2.2 .resv).1) (.lst none true .full []) r4.1 v5 (.int .i64 0) r4.2 (K43_8 (finK cfg.P f43.results.toList)))) :=
(AC_eq cfg 43 [a0, a1] m (fn := f43) (c := bodyOf f43) at43 rfl).trans (by kernel_rfl)
/-! ### (*sortilege/diagram.Store).Load -/
theorem T44 (a0 a1 : AV) (m : Mem) : AC cfg 44 [a0, a1] m =
  (boxA none none m a0).bind fun r1 =>
  (boxA none none r1.2 a1).bind fun r2 =>
  (loadA none r2.2 r1.1).bind fun v3 =>
  (AC cfg 80 [v3] r2.2).bind fun r4 =>
  ifA r4.1 (
  some ((.tup [(.int .i64 0), (.int .i64 4)]), r4.2)) (
  (loadA none r4.2 r1.1).bind fun v5 =>
  (nilA v5).bind fun v6 =>
  (fieldAddrA 0 v6).bind fun v7 =>
  (loadA none r4.2 v7).bind fun v8 =>
  (loadA none r4.2 r2.1).bind fun v9 =>
  (pcall (AP cfg) (some r4.2.length) r4.2 107 [v8, v9]).bind fun r10 =>
  (unA .not r10.1).bind fun v11 =>
  ifA v11 (
  some ((.tup [(.int .i64 0), (.int .i64 1)]), r10.2)) (
  (loadA none r10.2 r1.1).bind fun v12 =>
  (AC cfg 84 [v12, (.fn 108 [r2.1, r1.1])] r10.2).bind fun r13 =>
  (extractA r13.1 0).bind fun v14 =>
  (extractA r13.1 1).bind fun v15 =>
  some ((.tup [v14, v15]), r13.2))) :=
(AC_eq cfg 44 [a0, a1] m (fn := f44) (c := bodyOf f44) at44 rfl).trans (by kernel_rfl)
/-! ### (*sortilege/diagram.Store).told -/
noncomputable def L104_7 (x0 x2 x8 x21 x22 x23 : AV) (m : Mem) (K : Ex → St → Option (AV × Mem)) : Option (AV × Mem) := loopW (execW cfg 104 (AP cfg) (AC cfg) (c1 (c1 (c2 (c1 (c2 (c2 (c2 (c2 (bodyOf f104)))))))))) (cfg.mask 104 (some 7)) ⟨[x0, .any, x2, .any, .any, .any, .any, .any, x8, .any, .any, .any, .any, .any, .any, .any, .any, .any, .any, .any, .any, x21, x22, x23, .any, .any, .any, .any, .any, .any, .any, .any, .any, .any, .any, .any, .any, .any, .any, .any, .any, .any, .any, .any, .any, .any, .any, .any, .any], m⟩ K
noncomputable abbrev K104_7_0 (K : Ex → St → Option (AV × Mem)) : Ex → St → Option (AV × Mem) := seqK (fun st => execW cfg 104 (AP cfg) (AC cfg) (c2 (c2 (c2 (c2 (c2 (bodyOf f104)))))) st K) K
noncomputable abbrev K104_7_1 (K : Ex → St → Option (AV × Mem)) : Ex → St → Option (AV × Mem) := blockK 0 (K104_7_0 K)
noncomputable abbrev K104_7 (K : Ex → St → Option (AV × Mem)) : Ex → St → Option (AV × Mem) := (K104_7_1 K)
theorem T104 (a0 a1 a2 : AV) (m : Mem) : AC cfg 104 [a0, a1, a2] m =
  (AC cfg 80 [a0] m).bind fun r1 =>
  ifA r1.1 (
  some ((.tup [(.lst none true .full []), (.int .i64 4)]), r1.2)) (
  (AC cfg 81 [a0, a1] r1.2).bind fun r2 =>
  (unA .not r2.1).bind fun v3 =>
  ifA v3 (
  some ((.tup [(.lst none true .full []), (.int .i64 1)]), r2.2)) (
  (AC cfg 65 [a0, a1] r2.2).bind fun r4 =>
  (lenA false r4.1).bind fun v5 =>
  L104_7 a0 a2 (.lst none true .full []) r4.1 v5 (.int .i64 0) r4.2 (K104_7 (finK cfg.P f104.results.toList)))) :=
(AC_eq cfg 104 [a0, a1, a2] m (fn := f104) (c := bodyOf f104) at104 rfl).trans (by kernel_rfl)
end Go.Ab

/- What the interpreter does, function by function. -/
set_option maxRecDepth 100000
set_option linter.unusedVariables false
namespace Go.Ab
open Go.Proofs.Tryz
/-! ### sortilege/sortilegelaw23.DiagramNews -/
def O5_9 (m : Mem) : St := ⟨[.any, .any, .any, .any, .any, .any, .any, .any, .any, .any, .any, .any, .any, .any, .any, .any, .any, .any, .any, .any, .any, .any, .any, .any, .any, .any, .any, .any, .any, .any, .any, .any, .any, .any, .any, .any, .any, .any, .any, .any, .any, .any, .any, .any, .any, .any, .any, .any, .any, .any, .any, .any, .any, .any, .any, .any, .any, .any, .any, .any, .any, .any, .any, .any, .any, .any, .any, .any, .any, .any, .any, .any, .any, .any, .any, .any, .any, .any, .any, .any, .any, .any, .any, .any, .any, .any, .any, .any, .any, .any, .any, .any, .any, .any, .any, .any, .any, .any, .any, .any, .any, .any, .any, .any, .any, .any, .any, .any, .any, .any, .any, .any, .any, .any, .any, .any, .any, .any, .any, .any, .any, .any, .any, .any, .any, .any, .any, .any, .any, .any, .any, .any, .any, .any, .any, .any, .any, .any, .any, .any, .any, .any, .any, .any, .any, .any, .any, .any, .any, .any, .any, .any, .any, .any, .any, .any, .any, .any, .any, .any, .any, .any, .any, .any, .any, .any, .any, .any, .any, .any, .any, .any, .any, .any, .any, .any, .any, .any, .any, .any, .any, .any, .any, .any, .any, .any, .any, .any, .any, .any, .any, .any, .any, .any, .any, .any], m⟩
def R5_9 (x4 : AV) (m : Mem) : St := ⟨[.any, .any, .any, .any, x4, .any, .any, .any, .any, .any, .any, .any, .any, .any, .any, .any, .any, .any, .any, .any, .any, .any, .any, .any, .any, .any, .any, .any, .any, .any, .any, .any, .any, .any, .any, .any, .any, .any, .any, .any, .any, .any, .any, .any, .any, .any, .any, .any, .any, .any, .any, .any, .any, .any, .any, .any, .any, .any, .any, .any, .any, .any, .any, .any, .any, .any, .any, .any, .any, .any, .any, .any, .any, .any, .any, .any, .any, .any, .any, .any, .any, .any, .any, .any, .any, .any, .any, .any, .any, .any, .any, .any, .any, .any, .any, .any, .any, .any, .any, .any, .any, .any, .any, .any, .any, .any, .any, .any, .any, .any, .any, .any, .any, .any, .any, .any, .any, .any, .any, .any, .any, .any, .any, .any, .any, .any, .any, .any, .any, .any, .any, .any, .any, .any, .any, .any, .any, .any, .any, .any, .any, .any, .any, .any, .any, .any, .any, .any, .any, .any, .any, .any, .any, .any, .any, .any, .any, .any, .any, .any, .any, .any, .any, .any, .any, .any, .any, .any, .any, .any, .any, .any, .any, .any, .any, .any, .any, .any, .any, .any, .any, .any, .any, .any, .any, .any, .any, .any, .any, .any, .any, .any, .any, .any, .any, .any], m⟩
noncomputable def L5_9 (x1 x78 x79 x80 : AV) (m : Mem) (K : Ex → St → Option (AV × Mem)) : Option (AV × Mem) := loopW (execW cfg 5 (AP cfg) (AC cfg) (c1 (c1 (c2 (c1 (c2 (c2 (c2 (c2 (c2 (c2 (bodyOf f5)))))))))))) (cfg.mask 5 (some 9)) ⟨[.any, x1, .any, .any, .any, .any, .any, .any, .any, .any, .any, .any, .any, .any, .any, .any, .any, .any, .any, .any, .any, .any, .any, .any, .any, .any, .any, .any, .any, .any, .any, .any, .any, .any, .any, .any, .any, .any, .any, .any, .any, .any, .any, .any, .any, .any, .any, .any, .any, .any, .any, .any, .any, .any, .any, .any, .any, .any, .any, .any, .any, .any, .any, .any, .any, .any, .any, .any, .any, .any, .any, .any, .any, .any, .any, .any, .any, .any, x78, x79, x80, .any, .any, .any, .any, .any, .any, .any, .any, .any, .any, .any, .any, .any, .any, .any, .any, .any, .any, .any, .any, .any, .any, .any, .any, .any, .any, .any, .any, .any, .any, .any, .any, .any, .any, .any, .any, .any, .any, .any, .any, .any, .any, .any, .any, .any, .any, .any, .any, .any, .any, .any, .any, .any, .any, .any, .any, .any, .any, .any, .any, .any, .any, .any, .any, .any, .any, .any, .any, .any, .any, .any, .any, .any, .any, .any, .any, .any, .any, .any, .any, .any, .any, .any, .any, .any, .any, .any, .any, .any, .any, .any, .any, .any, .any, .any, .any, .any, .any, .any, .any, .any, .any, .any, .any, .any, .any, .any, .any, .any, .any, .any, .any, .any, .any, .any], m⟩ K
def O5_25 (x1 x9 x78 x79 x80 : AV) (m : Mem) : St := ⟨[.any, x1, .any, .any, .any, .any, .any, .any, .any, x9, .any, .any, .any, .any, .any, .any, .any, .any, .any, .any, .any, .any, .any, .any, .any, .any, .any, .any, .any, .any, .any, .any, .any, .any, .any, .any, .any, .any, .any, .any, .any, .any, .any, .any, .any, .any, .any, .any, .any, .any, .any, .any, .any, .any, .any, .any, .any, .any, .any, .any, .any, .any, .any, .any, .any, .any, .any, .any, .any, .any, .any, .any, .any, .any, .any, .any, .any, .any, x78, x79, x80, .any, .any, .any, .any, .any, .any, .any, .any, .any, .any, .any, .any, .any, .any, .any, .any, .any, .any, .any, .any, .any, .any, .any, .any, .any, .any, .any, .any, .any, .any, .any, .any, .any, .any, .any, .any, .any, .any, .any, .any, .any, .any, .any, .any, .any, .any, .any, .any, .any, .any, .any, .any, .any, .any, .any, .any, .any, .any, .any, .any, .any, .any, .any, .any, .any, .any, .any, .any, .any, .any, .any, .any, .any, .any, .any, .any, .any, .any, .any, .any, .any, .any, .any, .any, .any, .any, .any, .any, .any, .any, .any, .any, .any, .any, .any, .any, .any, .any, .any, .any, .any, .any, .any, .any, .any, .any, .any, .any, .any, .any, .any, .any, .any, .any, .any], m⟩
def R5_25 (x4 : AV) (m : Mem) : St := ⟨[.any, .any, .any, .any, x4, .any, .any, .any, .any, .any, .any, .any, .any, .any, .any, .any, .any, .any, .any, .any, .any, .any, .any, .any, .any, .any, .any, .any, .any, .any, .any, .any, .any, .any, .any, .any, .any, .any, .any, .any, .any, .any, .any, .any, .any, .any, .any, .any, .any, .any, .any, .any, .any, .any, .any, .any, .any, .any, .any, .any, .any, .any, .any, .any, .any, .any, .any, .any, .any, .any, .any, .any, .any, .any, .any, .any, .any, .any, .any, .any, .any, .any, .any, .any, .any, .any, .any, .any, .any, .any, .any, .any, .any, .any, .any, .any, .any, .any, .any, .any, .any, .any, .any, .any, .any, .any, .any, .any, .any, .any, .any, .any, .any, .any, .any, .any, .any, .any, .any, .any, .any, .any, .any, .any, .any, .any, .any, .any, .any, .any, .any, .any, .any, .any, .any, .any, .any, .any, .any, .any, .any, .any, .any, .any, .any, .any, .any, .any, .any, .any, .any, .any, .any, .any, .any, .any, .any, .any, .any, .any, .any, .any, .any, .any, .any, .any, .any, .any, .any, .any, .any, .any, .any, .any, .any, .any, .any, .any, .any, .any, .any, .any, .any, .any, .any, .any, .any, .any, .any, .any, .any, .any, .any, .any, .any, .any], m⟩
noncomputable def L5_25 (x1 x9 x78 x79 x80 x176 x177 x178 : AV) (m : Mem) (K : Ex → St → Option (AV × Mem)) : Option (AV × Mem) := loopW (execW cfg 5 (AP cfg) (AC cfg) (c1 (c1 (c2 (c1 (c2 (c2 (c2 (c2 (c2 (c2 (c2 (c2 (c2 (c2 (c2 (c2 (c2 (c2 (c1 (c1 (c2 (c2 (c1 (c1 (c2 (c1 (c2 (c2 (c2 (c2 (c2 (c2 (bodyOf f5)))))))))))))))))))))))))))))))))) (cfg.mask 5 (some 25)) ⟨[.any, x1, .any, .any, .any, .any, .any, .any, .any, x9, .any, .any, .any, .any, .any, .any, .any, .any, .any, .any, .any, .any, .any, .any, .any, .any, .any, .any, .any, .any, .any, .any, .any, .any, .any, .any, .any, .any, .any, .any, .any, .any, .any, .any, .any, .any, .any, .any, .any, .any, .any, .any, .any, .any, .any, .any, .any, .any, .any, .any, .any, .any, .any, .any, .any, .any, .any, .any, .any, .any, .any, .any, .any, .any, .any, .any, .any, .any, x78, x79, x80, .any, .any, .any, .any, .any, .any, .any, .any, .any, .any, .any, .any, .any, .any, .any, .any, .any, .any, .any, .any, .any, .any, .any, .any, .any, .any, .any, .any, .any, .any, .any, .any, .any, .any, .any, .any, .any, .any, .any, .any, .any, .any, .any, .any, .any, .any, .any, .any, .any, .any, .any, .any, .any, .any, .any, .any, .any, .any, .any, .any, .any, .any, .any, .any, .any, .any, .any, .any, .any, .any, .any, .any, .any, .any, .any, .any, .any, .any, .any, .any, .any, .any, .any, .any, .any, .any, .any, .any, .any, .any, .any, .any, .any, .any, .any, x176, x177, x178, .any, .any, .any, .any, .any, .any, .any, .any, .any, .any, .any, .any, .any, .any, .any, .any, .any], m⟩ K
noncomputable abbrev K5_9_0 (K : Ex → St → Option (AV × Mem)) : Ex → St → Option (AV × Mem) := seqK (fun st => execW cfg 5 (AP cfg) (AC cfg) (c2 (c2 (c2 (c2 (c2 (c2 (c2 (bodyOf f5)))))))) st K) K
noncomputable abbrev K5_9_1 (K : Ex → St → Option (AV × Mem)) : Ex → St → Option (AV × Mem) := blockK 0 (K5_9_0 K)
noncomputable abbrev K5_9 (K : Ex → St → Option (AV × Mem)) : Ex → St → Option (AV × Mem) := (K5_9_1 K)
noncomputable abbrev K5_25_0 (K : Ex → St → Option (AV × Mem)) : Ex → St → Option (AV × Mem) := seqK (fun st => execW cfg 5 (AP cfg) (AC cfg) (c2 (c2 (c2 (c1 (c1 (c2 (c1 (c2 (c2 (c2 (c2 (c2 (c2 (bodyOf f5)))))))))))))) st (roundG (fun st => loopW (execW cfg 5 (AP cfg) (AC cfg) (c1 (c1 (c2 (c1 (c2 (c2 (c2 (c2 (c2 (c2 (bodyOf f5)))))))))))) (cfg.mask 5 (some 9)) st K) (cfg.mask 5 (some 9)) K)) (roundG (fun st => loopW (execW cfg 5 (AP cfg) (AC cfg) (c1 (c1 (c2 (c1 (c2 (c2 (c2 (c2 (c2 (c2 (bodyOf f5)))))))))))) (cfg.mask 5 (some 9)) st K) (cfg.mask 5 (some 9)) K)
noncomputable abbrev K5_25_1 (K : Ex → St → Option (AV × Mem)) : Ex → St → Option (AV × Mem) := blockK 1 (K5_25_0 K)
noncomputable abbrev K5_25_2 (K : Ex → St → Option (AV × Mem)) : Ex → St → Option (AV × Mem) := seqK (fun st => execW cfg 5 (AP cfg) (AC cfg) (c2 (c2 (c2 (c2 (c2 (c2 (c2 (c2 (c2 (c2 (c2 (c2 (c2 (c2 (c2 (c1 (c1 (c2 (c2 (c1 (c1 (c2 (c1 (c2 (c2 (c2 (c2 (c2 (c2 (bodyOf f5)))))))))))))))))))))))))))))) st (K5_25_1 K)) (K5_25_1 K)
noncomputable abbrev K5_25_3 (K : Ex → St → Option (AV × Mem)) : Ex → St → Option (AV × Mem) := blockK 2 (K5_25_2 K)
noncomputable abbrev K5_25 (K : Ex → St → Option (AV × Mem)) : Ex → St → Option (AV × Mem) := (K5_25_3 K)
theorem T5 (a0 a1 : AV) (m : Mem) : AC cfg 5 [a0, a1] m =
  (lenA false a0).bind fun v1 =>
  (maxA false v1 (.int .i64 40)).bind fun v2 =>
  (sliceT none a0 none (some v2) none).bind fun v3 =>
  (AC cfg 32 [v3] m).bind fun r4 =>
  (extractA r4.1 0).bind fun v5 =>
  (extractA r4.1 1).bind fun v6 =>
  (pcall (AP cfg) none r4.2 11 [v3]).bind fun r7 =>
  (binA .other .neq v6 r7.1).bind fun v8 =>
  ifA v8 (
  some ((.bool false), r7.2)) (
  (binA .other .neq v6 (.int .i64 0)).bind fun v9 =>
  ifA v9 (
  (binA .pt .neq v5 .nilp).bind fun v10 =>
  ifA v10 (
  some ((.bool false), r7.2)) (
  (binA .other .eql v6 (.int .i64 0)).bind fun v11 =>
  ifA v11 (
  (AC cfg 28 [v5] r7.2).bind fun r12 =>
  (pcall (AP cfg) none r12.2 27 [r12.1, v3]).bind fun r13 =>
  (unA .not r13.1).bind fun v14 =>
  ifA v14 (
  some ((.bool false), r13.2)) (
  (AC cfg 30 [v5] r13.2).bind fun r15 =>
  (binA .other .neq r15.1 (.int .i64 0)).bind fun v16 =>
  ifA v16 (
  some ((.bool false), r15.2)) (
  (buildA (.agg [(.lst none true .full []), (.lst none true .full []), .nilm, (.int .i64 0)]) []).bind fun v17 =>
  (boxA none (some 4) r15.2 v17).bind fun r18 =>
  (buildSliceA none [.nilp, r18.1]).bind fun v19 =>
  (lenA false v19).bind fun v20 =>
  L5_9 a1 v19 v20 (.int .i64 0) r18.2 (K5_9 (finK cfg.P f5.results.toList))))) (
  (buildA (.agg [(.lst none true .full []), (.lst none true .full []), .nilm, (.int .i64 0)]) []).bind fun v21 =>
  (boxA none (some 4) r7.2 v21).bind fun r22 =>
  (buildSliceA none [.nilp, r22.1]).bind fun v23 =>
  (lenA false v23).bind fun v24 =>
  L5_9 a1 v23 v24 (.int .i64 0) r22.2 (K5_9 (finK cfg.P f5.results.toList))))) (
  (binA .other .eql v6 (.int .i64 0)).bind fun v25 =>
  ifA v25 (
  (AC cfg 28 [v5] r7.2).bind fun r26 =>
  (pcall (AP cfg) none r26.2 27 [r26.1, v3]).bind fun r27 =>
  (unA .not r27.1).bind fun v28 =>
  ifA v28 (
  some ((.bool false), r27.2)) (
  (AC cfg 30 [v5] r27.2).bind fun r29 =>
  (binA .other .neq r29.1 (.int .i64 0)).bind fun v30 =>
  ifA v30 (
  some ((.bool false), r29.2)) (
  (buildA (.agg [(.lst none true .full []), (.lst none true .full []), .nilm, (.int .i64 0)]) []).bind fun v31 =>
  (boxA none (some 4) r29.2 v31).bind fun r32 =>
  (buildSliceA none [.nilp, r32.1]).bind fun v33 =>
  (lenA false v33).bind fun v34 =>
  L5_9 a1 v33 v34 (.int .i64 0) r32.2 (K5_9 (finK cfg.P f5.results.toList))))) (
  (buildA (.agg [(.lst none true .full []), (.lst none true .full []), .nilm, (.int .i64 0)]) []).bind fun v35 =>
  (boxA none (some 4) r7.2 v35).bind fun r36 =>
  (buildSliceA none [.nilp, r36.1]).bind fun v37 =>
  (lenA false v37).bind fun v38 =>
  L5_9 a1 v37 v38 (.int .i64 0) r36.2 (K5_9 (finK cfg.P f5.results.toList))))) :=
(AC_eq cfg 5 [a0, a1] m (fn := f5) (c := bodyOf f5) at5 rfl).trans (by kernel_rfl)
theorem L5_9_eq (x1 x78 x79 x80 : AV) (m : Mem) (K : Ex → St → Option (AV × Mem)) : L5_9 x1 x78 x79 x80 m K =
  (binA .other .lss x80 x79).bind fun v1 =>
  ifA v1 (
  (indexAddrA none x78 x80).bind fun v2 =>
  (loadA none m v2).bind fun v3 =>
  (AC cfg 33 [v3, x1] m).bind fun r4 =>
  (extractA r4.1 0).bind fun v5 =>
  (extractA r4.1 1).bind fun v6 =>
  (AC cfg 34 [v3, x1, (.lst none true .full [])] r4.2).bind fun r7 =>
  (extractA r7.1 0).bind fun v8 =>
  (extractA r7.1 1).bind fun v9 =>
  (AC cfg 35 [v3, x1] r7.2).bind fun r10 =>
  (extractA r10.1 0).bind fun v11 =>
  (extractA r10.1 1).bind fun v12 =>
  (storeA (some 3) (newAt none r10.2 (.obj true [(.int .i64 0), (.lst none true .full []), (.int .i64 0)])).2 (.ptr (newAt none r10.2 .resv).1 0) v11).bind fun m13 =>
  (AC cfg 36 [v3, x1, (.lst none true .full [])] m13).bind fun r14 =>
  (extractA r14.1 0).bind fun v15 =>
  (extractA r14.1 1).bind fun v16 =>
  (AC cfg 37 [v3, x1, x1, (.fn 38 [])] r14.2).bind fun r17 =>
  (extractA r17.1 0).bind fun v18 =>
  (extractA r17.1 1).bind fun v19 =>
  (AC cfg 39 [v3, x1, (.int .i64 0), (.int .i64 0)] r17.2).bind fun r20 =>
  (extractA r20.1 0).bind fun v21 =>
  (extractA r20.1 1).bind fun v22 =>
  (AC cfg 40 [v3, x1] r20.2).bind fun r23 =>
  (extractA r23.1 0).bind fun v24 =>
  (extractA r23.1 1).bind fun v25 =>
  (AC cfg 41 [v3, x1] r23.2).bind fun r26 =>
  (extractA r26.1 0).bind fun v27 =>
  (extractA r26.1 1).bind fun v28 =>
  (AC cfg 42 [v3, x1] r26.2).bind fun r29 =>
  (extractA r29.1 0).bind fun v30 =>
  (extractA r29.1 1).bind fun v31 =>
  (AC cfg 17 [v3, x1, (.lst none true .full [])] r29.2).bind fun r32 =>
  (extractA r32.1 0).bind fun v33 =>
  (extractA r32.1 1).bind fun v34 =>
  (AC cfg 24 [v3, x1, (.lst none true .full [])] r32.2).bind fun r35 =>
  (extractA r35.1 0).bind fun v36 =>
  (extractA r35.1 1).bind fun v37 =>
  (extractA r35.1 2).bind fun v38 =>
  (AC cfg 43 [v3, x1] r35.2).bind fun r39 =>
  (extractA r39.1 0).bind fun v40 =>
  (extractA r39.1 1).bind fun v41 =>
  (AC cfg 44 [v3, (.lst none true .full [])] r39.2).bind fun r42 =>
  (extractA r42.1 0).bind fun v43 =>
  (extractA r42.1 1).bind fun v44 =>
  (buildSliceA none [v6, v9, v12, v16, v19, v22, v25, v28, v31, v34, v38, v41, v44]).bind fun v45 =>
  (lenA false v45).bind fun v46 =>
  L5_25 x1 v3 x78 x79 x80 v45 v46 (.int .i64 0) r42.2 (K5_25 K)) (
  K (.exit 0) (O5_9 m)) :=
(loopW_eq (execW_lin _) _ _ _).trans (by kernel_rfl)
theorem L5_25_eq (x1 x9 x78 x79 x80 x176 x177 x178 : AV) (m : Mem) (K : Ex → St → Option (AV × Mem)) : L5_25 x1 x9 x78 x79 x80 x176 x177 x178 m K =
  (binA .other .lss x178 x177).bind fun v1 =>
  ifA v1 (
  (indexAddrA none x176 x178).bind fun v2 =>
  (loadA none m v2).bind fun v3 =>
  (binA .other .neq v3 (.int .i64 4)).bind fun v4 =>
  ifA v4 (
  K .ret (R5_25 (.bool false) m)) (
  (binA .other .add x178 (.int .i64 1)).bind fun v5 =>
  L5_25 x1 x9 x78 x79 x80 x176 x177 v5 m K)) (
  K (.exit 2) (O5_25 x1 x9 x78 x79 x80 m)) :=
(loopW_eq (execW_lin _) _ _ _).trans (by kernel_rfl)
theorem K5_9_x0 (m : Mem) : K5_9 (finK cfg.P f5.results.toList) (.exit 0) (O5_9  m) =
  (pcall (AP cfg) none m 13 []).bind fun r1 =>
  some (r1.1, r1.2) := by kernel_rfl
theorem K5_25_x2 (x1 x9 x78 x79 x80 : AV) (m : Mem) (K : Ex → St → Option (AV × Mem)) : K5_25 K (.exit 2) (O5_25 x1 x9 x78 x79 x80 m) =
  (AC cfg 30 [x9] m).bind fun r1 =>
  (binA .other .neq r1.1 (.int .i64 0)).bind fun v2 =>
  ifA v2 (
  K .ret (R5_9 (.bool false) r1.2)) (
  (AC cfg 28 [x9] r1.2).bind fun r3 =>
  (lenA false r3.1).bind fun v4 =>
  (binA .other .neq v4 (.int .i64 0)).bind fun v5 =>
  ifA v5 (
  K .ret (R5_9 (.bool false) r3.2)) (
  (binA .other .add x80 (.int .i64 1)).bind fun v6 =>
  L5_9 x1 x78 x79 v6 r3.2 K)) := by kernel_rfl
end Go.Ab

/- DiagramNews: methods of a store that is none, by value; the law. -/
set_option linter.unusedVariables false
set_option linter.unusedSimpArgs false
set_option linter.unusedSectionVars false
set_option maxRecDepth 100000
namespace Go.Ab
open Go.Proofs Go.Proofs.Tryz

/-- No store: nil, or the zero value. -/
def Ded (m : Mem) (x : AV) : Prop := x = .nilp ∨ ∃ q, x = .ptr q 0 ∧ m.get q = some (.obj true [.lst none true .full [], .lst none true .full [], .nilm, .int .i64 0])
theorem Ded.fr {m m' : Mem} {x : AV} (h : Ded m x) (f : Fr m m' []) : Ded m' x := by
  rcases h with h | ⟨q, h1, h2⟩
  · exact .inl h
  · exact .inr ⟨q, h1, by rw [f.get q (get_lt h2) (by simp)]; exact h2⟩
theorem Ded.box {m : Mem} {x : AV} (h : Ded m x) (M : Mem) : boxA none none M x = some (.ptr M.length 0, M ++ [some (Ent.obj true [x])]) := by
  rcases h with rfl | ⟨q, rfl, _⟩ <;> rfl
theorem box_nl (M : Mem) : boxA none none M (.lst none true .full []) = some (.ptr M.length 0, M ++ [some (Ent.obj true [.lst none true .full []])]) := rfl
theorem box_fn (f : Nat) (cs : List AV) (m : Mem) : boxA none none m (.fn f cs) = some (.ptr m.length 0, m ++ [some (Ent.obj true [.fn f cs])]) := rfl
theorem ld_box {m : Mem} {nm : Nat} {b : Bool} {v : AV} (h : m.get nm = some (.obj b [v])) : loadA none m (.ptr nm 0) = some v := by
  rw [ld_ptr, h, objE_obj, Option.bind_some]; rfl
section
variable {m : Mem} {x : AV}
theorem N80 (h : Ded m x) : AC cfg 80 [x] m = some (.bool true, m) := by
  rcases h with rfl | ⟨q, rfl, hg⟩
  · rw [T80, show binA .pt .eql .nilp .nilp = some (.bool true) from rfl, Option.bind_some, ifA_t]
  · have ld : loadA none m (.ptr q (0 + 3)) = some (.int .i64 0) := by rw [ld_ptr, hg]; rfl
    rw [T80, show binA .pt .eql (.ptr q 0) .nilp = some (.bool false) from rfl, Option.bind_some, ifA_f, nil_ptr, Option.bind_some, fa_ptr, Option.bind_some, ld, Option.bind_some, show binA .other .eql (.int .i64 0) (.int .i64 0) = some (.bool true) from rfl, Option.bind_some]
theorem N33 (h : Ded m x) (n : Int) : ∃ v m', AC cfg 33 [x, .int .i64 n] m = some (.tup [v, .int .i64 4], m') ∧ Fr m m' [] := by
  have f : Fr m ((m ++ [some (Ent.obj true [x])]) ++ [some (Ent.obj true [.int .i64 n])]) [] := (Fr.app m _ _).snoc _
  have e := N80 (h.fr f)
  have ld : loadA none ((m ++ [some (Ent.obj true [x])]) ++ [some (Ent.obj true [.int .i64 n])]) (.ptr m.length 0) = some x := ld_box (by simp (disch := (first | assumption | omega | (simp only [List.length_append, List.length_set, List.length_cons, List.length_nil]; first | done | omega))) only [resv1, g_lt, g_eq, g_sne, g_seq]; first | done | rfl)
  exact ⟨_, _, by rw [T33, h.box, Option.bind_some, box_i, Option.bind_some, ld, Option.bind_some, e, Option.bind_some, ifA_t], f⟩
theorem N34 (h : Ded m x) (n : Int) : ∃ v m', AC cfg 34 [x, .int .i64 n, .lst none true .full []] m = some (.tup [v, .int .i64 4], m') ∧ Fr m m' [] := by
  have f : Fr m (((m ++ [some (Ent.obj true [x])]) ++ [some (Ent.obj true [.int .i64 n])]) ++ [some (Ent.obj true [.lst none true .full []])]) [] := ((Fr.app m _ _).snoc _).snoc _
  have e := N80 (h.fr f)
  have ld : loadA none (((m ++ [some (Ent.obj true [x])]) ++ [some (Ent.obj true [.int .i64 n])]) ++ [some (Ent.obj true [.lst none true .full []])]) (.ptr m.length 0) = some x := ld_box (by simp (disch := (first | assumption | omega | (simp only [List.length_append, List.length_set, List.length_cons, List.length_nil]; first | done | omega))) only [resv1, g_lt, g_eq, g_sne, g_seq]; first | done | rfl)
  exact ⟨_, _, by rw [T34, h.box, Option.bind_some, box_i, Option.bind_some, box_nl, Option.bind_some, ld, Option.bind_some, e, Option.bind_some, ifA_t], f⟩
theorem N35 (h : Ded m x) (n : Int) : ∃ m', AC cfg 35 [x, .int .i64 n] m = some (.tup [.agg [.int .i64 0, .lst none true .full [], .int .i64 0], .int .i64 4], m') ∧ Fr m m' [] := by
  have f : Fr m (m ++ [some (Ent.obj true [.int .i64 0, .lst none true .full [], .int .i64 0])]) [] := Fr.app m _ _
  have e : AC cfg 80 [x] (newAt none m (.obj true [(.int .i64 0), (.lst none true .full []), (.int .i64 0)])).2 = _ := N80 (h.fr f)
  have hb : buildA (.agg [(.int .i64 0), (.lst none true .full []), (.int .i64 0)]) [] = some (.agg [(.int .i64 0), (.lst none true .full []), (.int .i64 0)]) := rfl
  have hs : storeA (some 3) (m ++ [some (Ent.obj true [.int .i64 0, .lst none true .full [], .int .i64 0])]) (.ptr m.length 0) (.agg [(.int .i64 0), (.lst none true .full []), (.int .i64 0)]) = some (m ++ [some (Ent.obj true [.int .i64 0, .lst none true .full [], .int .i64 0])]) := box_av ⟨0, [], 0⟩ m (get_len m) |> fun h => by
    have e : storeA (some 3) (m ++ [some (Ent.obj true [.int .i64 0, .lst none true .full [], .int .i64 0])]) (.ptr m.length 0) (.agg [(.int .i64 0), (.lst none true .full []), (.int .i64 0)]) = some ((m ++ [some (Ent.obj true [.int .i64 0, .lst none true .full [], .int .i64 0])]).set m.length (some (Ent.obj true [.int .i64 0, .lst none true .full [], .int .i64 0]))) := by
      rw [st_ptr, g_eq rfl, objE_obj, Option.bind_some]; rfl
    rw [e, List.set_append_right _ _ (Nat.le_refl _), Nat.sub_self]; rfl
  have ld : loadA (some 3) (m ++ [some (Ent.obj true [.int .i64 0, .lst none true .full [], .int .i64 0])]) (.ptr m.length 0) = some (.agg [.int .i64 0, .lst none true .full [], .int .i64 0]) := by
    rw [ld_ptr, g_eq rfl]; rfl
  refine ⟨_, ?_, f⟩
  have hs' : storeA (some 3) (newAt none m (.obj true [(.int .i64 0), (.lst none true .full []), (.int .i64 0)])).2 (.ptr (newAt none m .resv).1 0) (.agg [(.int .i64 0), (.lst none true .full []), (.int .i64 0)]) = _ := hs
  have ld' : loadA (some 3) (m ++ [some (Ent.obj true [.int .i64 0, .lst none true .full [], .int .i64 0])]) (.ptr (newAt none m .resv).1 0) = _ := ld
  rw [T35, e, Option.bind_some, ifA_t, hb, Option.bind_some, hs', Option.bind_some, ld', Option.bind_some]
theorem N36 (h : Ded m x) (n : Int) (y : AV) : AC cfg 36 [x, .int .i64 n, y] m = some (.tup [.int .i64 0, .int .i64 4], m) := by
  rw [T36, N80 h, Option.bind_some, ifA_t]
theorem N37 (h : Ded m x) (n : Int) : ∃ v m', AC cfg 37 [x, .int .i64 n, .int .i64 n, .fn 38 []] m = some (.tup [v, .int .i64 4], m') ∧ Fr m m' [] := by
  have f : Fr m ((((m ++ [some (Ent.obj true [x])]) ++ [some (Ent.obj true [.int .i64 n])]) ++ [some (Ent.obj true [.int .i64 n])]) ++ [some (Ent.obj true [.fn 38 []])]) [] := (((Fr.app m _ _).snoc _).snoc _).snoc _
  have e := N80 (h.fr f)
  have ld : loadA none ((((m ++ [some (Ent.obj true [x])]) ++ [some (Ent.obj true [.int .i64 n])]) ++ [some (Ent.obj true [.int .i64 n])]) ++ [some (Ent.obj true [.fn 38 []])]) (.ptr m.length 0) = some x := ld_box (by simp (disch := (first | assumption | omega | (simp only [List.length_append, List.length_set, List.length_cons, List.length_nil]; first | done | omega))) only [resv1, g_lt, g_eq, g_sne, g_seq]; first | done | rfl)
  exact ⟨_, _, by rw [T37, h.box, Option.bind_some, box_i, Option.bind_some, box_i, Option.bind_some, box_fn, Option.bind_some, ld, Option.bind_some, e, Option.bind_some, ifA_t], f⟩
theorem N39 (h : Ded m x) (n a b : Int) : ∃ v m', AC cfg 39 [x, .int .i64 n, .int .i64 a, .int .i64 b] m = some (.tup [v, .int .i64 4], m') ∧ Fr m m' [] := by
  have f : Fr m ((((m ++ [some (Ent.obj true [x])]) ++ [some (Ent.obj true [.int .i64 n])]) ++ [some (Ent.obj true [.int .i64 a])]) ++ [some (Ent.obj true [.int .i64 b])]) [] := (((Fr.app m _ _).snoc _).snoc _).snoc _
  have e := N80 (h.fr f)
  have ld : loadA none ((((m ++ [some (Ent.obj true [x])]) ++ [some (Ent.obj true [.int .i64 n])]) ++ [some (Ent.obj true [.int .i64 a])]) ++ [some (Ent.obj true [.int .i64 b])]) (.ptr m.length 0) = some x := ld_box (by simp (disch := (first | assumption | omega | (simp only [List.length_append, List.length_set, List.length_cons, List.length_nil]; first | done | omega))) only [resv1, g_lt, g_eq, g_sne, g_seq]; first | done | rfl)
  exact ⟨_, _, by rw [T39, h.box, Option.bind_some, box_i, Option.bind_some, box_i, Option.bind_some, box_i, Option.bind_some, ld, Option.bind_some, e, Option.bind_some, ifA_t], f⟩
theorem N104 (h : Ded m x) (n : Int) (y : AV) : AC cfg 104 [x, .int .i64 n, y] m = some (.tup [.lst none true .full [], .int .i64 4], m) := by
  rw [T104, N80 h, Option.bind_some, ifA_t]
theorem N40 (h : Ded m x) (n : Int) : AC cfg 40 [x, .int .i64 n] m = some (.tup [.lst none true .full [], .int .i64 4], m) := by
  rw [T40, N104 h, Option.bind_some, ex0, Option.bind_some, ex1, Option.bind_some]
theorem N41 (h : Ded m x) (n : Int) : AC cfg 41 [x, .int .i64 n] m = some (.tup [.lst none true .full [], .int .i64 4], m) := by
  rw [T41, N104 h, Option.bind_some, ex0, Option.bind_some, ex1, Option.bind_some]
theorem N42 (h : Ded m x) (n : Int) : AC cfg 42 [x, .int .i64 n] m = some (.tup [.int .i64 0, .int .i64 4], m) := by
  rw [T42, N80 h, Option.bind_some, ifA_t]
theorem N17 (h : Ded m x) (n : Int) (y : AV) : ∃ v m', AC cfg 17 [x, .int .i64 n, y] m = some (.tup [v, .int .i64 4], m') ∧ Fr m m' [] := by
  have f : Fr m (m ++ [some (Ent.obj true [x])]) [] := Fr.app m _ _
  have e := N41 (h.fr f) n
  have ld : loadA none (m ++ [some (Ent.obj true [x])]) (.ptr m.length 0) = some x := ld_box (g_eq rfl)
  exact ⟨_, _, by rw [T17, h.box, Option.bind_some, ld, Option.bind_some, e, Option.bind_some, ex0, Option.bind_some, ex1, Option.bind_some, show binA .other .neq (.int .i64 4) (.int .i64 0) = some (.bool true) from rfl, Option.bind_some, ifA_t], f⟩
theorem N24 (h : Ded m x) (n : Int) : ∃ v w m', AC cfg 24 [x, .int .i64 n, .lst none true .full []] m = some (.tup [v, w, .int .i64 4], m') ∧ Fr m m' [] := by
  have f : Fr m ((m ++ [some (Ent.obj true [.int .i64 n])]) ++ [some (Ent.obj true [.lst none true .full []])]) [] := (Fr.app m _ _).snoc _
  have e := N80 (h.fr f)
  exact ⟨_, _, _, by rw [T24, box_i, Option.bind_some, box_nl, Option.bind_some, e, Option.bind_some, ifA_t], f⟩
theorem N43 (h : Ded m x) (n : Int) : AC cfg 43 [x, .int .i64 n] m = some (.tup [.lst none true .full [], .int .i64 4], m) := by
  rw [T43, N80 h, Option.bind_some, ifA_t]
theorem N44 (h : Ded m x) : ∃ v m', AC cfg 44 [x, .lst none true .full []] m = some (.tup [v, .int .i64 4], m') ∧ Fr m m' [] := by
  have f : Fr m ((m ++ [some (Ent.obj true [x])]) ++ [some (Ent.obj true [.lst none true .full []])]) [] := (Fr.app m _ _).snoc _
  have e := N80 (h.fr f)
  have ld : loadA none ((m ++ [some (Ent.obj true [x])]) ++ [some (Ent.obj true [.lst none true .full []])]) (.ptr m.length 0) = some x := ld_box (by simp (disch := (first | assumption | omega | (simp only [List.length_append, List.length_set, List.length_cons, List.length_nil]; first | done | omega))) only [resv1, g_lt, g_eq, g_sne, g_seq]; first | done | rfl)
  exact ⟨_, _, by rw [T44, h.box, Option.bind_some, box_nl, Option.bind_some, ld, Option.bind_some, e, Option.bind_some, ifA_t], f⟩
theorem N30 (h : Ded m x) : AC cfg 30 [x] m = some (.int .i64 0, m) := by
  rw [T30, N80 h, Option.bind_some, ifA_t]
theorem N28 (h : Ded m x) : AC cfg 28 [x] m = some (.lst none true .full [], m) := by
  rw [T28, N80 h, Option.bind_some, ifA_t]
end
end Go.Ab

/- DiagramNews in values. -/
set_option linter.unusedVariables false
set_option linter.unusedSimpArgs false
set_option linter.unusedSectionVars false
set_option maxRecDepth 100000
namespace Go.Ab
open Go.Proofs Go.Proofs.Tryz

theorem X25 (x1 x9 x78 x79 x80 : AV) (m : Mem) (K : Ex → St → Option (AV × Mem)) : ∀ j i : Nat, i + j = 13 →
    L5_25 x1 x9 x78 x79 x80 (IA false .full (List.replicate 13 4)) (.int .i64 13) (.int .i64 i) m (K5_25 K) = K5_25 K (.exit 2) (O5_25 x1 x9 x78 x79 x80 m)
  | 0, i, h => by
    rw [L5_25_eq, binA_lss, Option.bind_some, ifA_dec, if_neg (by omega)]
  | j + 1, i, h => by
    have hi : i < (List.replicate 13 (4 : Int)).length := by rw [List.length_replicate]; omega
    rw [L5_25_eq, binA_lss, Option.bind_some, ifA_dec, if_pos (by omega), idx_IA hi, Option.bind_some, loadA_one, Option.bind_some, List.getElem_replicate, binA_neq, Option.bind_some, ifA_dec, if_neg (by omega), i_add1 (by omega), Option.bind_some]
    exact X25 x1 x9 x78 x79 x80 m K j (i + 1) (by omega)
theorem X9s {m : Mem} {x : AV} (h : Ded m x) (n : Int) {x78 v2 : AV} {i : Nat} (hi : i < 2) (hix : indexAddrA none x78 (.int .i64 i) = some v2) (hld : ∀ M, loadA none M v2 = some x) (K : Ex → St → Option (AV × Mem)) :
    ∃ m', L5_9 (.int .i64 n) x78 (.int .i64 2) (.int .i64 i) m K = L5_9 (.int .i64 n) x78 (.int .i64 2) (.int .i64 (i + 1 : Nat)) m' K ∧ Fr m m' [] := by
  have t0 : ∀ {a b c : Mem}, Fr a b [] → Fr b c [] → Fr a c [] := fun f k => Fr.trans f k fun _ hh => by cases hh
  obtain ⟨v1, m1, e33, f1⟩ := N33 h n
  obtain ⟨w2, m2, e34, f2⟩ := N34 (h.fr f1) n
  have h2 := (h.fr f1).fr f2
  obtain ⟨m3, e35, f3⟩ := N35 h2 n
  have h3 := h2.fr f3
  have f4 : Fr m3 (m3 ++ [some (Ent.obj true [.int .i64 0, .lst none true .full [], .int .i64 0])]) [] := Fr.app m3 _ _
  have h4 := h3.fr f4
  have hs : storeA (some 3) (newAt none m3 (.obj true [(.int .i64 0), (.lst none true .full []), (.int .i64 0)])).2 (.ptr (newAt none m3 .resv).1 0) (.agg [.int .i64 0, .lst none true .full [], .int .i64 0]) = some (m3 ++ [some (Ent.obj true [.int .i64 0, .lst none true .full [], .int .i64 0])]) := by
    have e : storeA (some 3) (m3 ++ [some (Ent.obj true [.int .i64 0, .lst none true .full [], .int .i64 0])]) (.ptr m3.length 0) (.agg [(.int .i64 0), (.lst none true .full []), (.int .i64 0)]) = some ((m3 ++ [some (Ent.obj true [.int .i64 0, .lst none true .full [], .int .i64 0])]).set m3.length (some (Ent.obj true [.int .i64 0, .lst none true .full [], .int .i64 0]))) := by
      rw [st_ptr, g_eq rfl, objE_obj, Option.bind_some]; rfl
    rw [List.set_append_right _ _ (Nat.le_refl _), Nat.sub_self] at e
    exact e
  have e36 := N36 h4 n (.lst none true .full [])
  obtain ⟨v7, m7, e37, f7⟩ := N37 h4 n
  have h7 := h4.fr f7
  obtain ⟨v8, m8, e39, f8⟩ := N39 h7 n 0 0
  have h8 := h7.fr f8
  have e40 := N40 h8 n
  have e41 := N41 h8 n
  have e42 := N42 h8 n
  obtain ⟨v9, m9, e17, f9⟩ := N17 h8 n (.lst none true .full [])
  have h9 := h8.fr f9
  obtain ⟨v10, w10, m10, e24, f10⟩ := N24 h9 n
  have h10 := h9.fr f10
  have e43 := N43 h10 n
  obtain ⟨v11, m11, e44, f11⟩ := N44 h10
  have h11 := h10.fr f11
  have e30 := N30 h11
  have e28 := N28 h11
  have hb : buildSliceA none [AV.int .i64 4, .int .i64 4, .int .i64 4, .int .i64 4, .int .i64 4, .int .i64 4, .int .i64 4, .int .i64 4, .int .i64 4, .int .i64 4, .int .i64 4, .int .i64 4, .int .i64 4] = some (IA false .full (List.replicate 13 4)) := rfl
  have hl : lenA false (IA false .full (List.replicate 13 4)) = some (.int .i64 13) := rfl
  have e2 : ∀ a b c : AV, extractA (.tup [a, b, c]) 2 = some c := fun _ _ _ => rfl
  have ex30 : ∀ a b c : AV, extractA (.tup [a, b, c]) 0 = some a := fun _ _ _ => rfl
  have ex31 : ∀ a b c : AV, extractA (.tup [a, b, c]) 1 = some b := fun _ _ _ => rfl
  have hx25 := X25 (.int .i64 n) x x78 (.int .i64 2) (.int .i64 i) m11 K 13 0 (by omega)
  have hx25 : L5_25 (.int .i64 n) x x78 (.int .i64 2) (.int .i64 i) (IA false .full (List.replicate 13 4)) (.int .i64 13) (.int .i64 0) m11 (K5_25 K) = _ := hx25
  have q0 : binA .other .neq (.int .i64 0) (.int .i64 0) = some (.bool false) := rfl
  have hl0 : lenA false (.lst none true .full []) = some (.int .i64 0) := rfl
  refine ⟨m11, ?_, t0 (t0 (t0 (t0 (t0 (t0 (t0 (t0 f1 f2) f3) f4) f7) f8) f9) f10) f11⟩
  rw [L5_9_eq, binA_lss, Option.bind_some, ifA_dec, if_pos (by omega), hix, Option.bind_some, hld, Option.bind_some, e33, Option.bind_some, ex0, Option.bind_some, ex1, Option.bind_some, e34, Option.bind_some, ex0, Option.bind_some, ex1, Option.bind_some, e35, Option.bind_some, ex0, Option.bind_some, ex1, Option.bind_some, hs, Option.bind_some, e36, Option.bind_some, ex0, Option.bind_some, ex1, Option.bind_some, e37, Option.bind_some, ex0, Option.bind_some, ex1, Option.bind_some, e39, Option.bind_some, ex0, Option.bind_some, ex1, Option.bind_some, e40, Option.bind_some, ex0, Option.bind_some, ex1, Option.bind_some, e41, Option.bind_some, ex0, Option.bind_some, ex1, Option.bind_some, e42, Option.bind_some, ex0, Option.bind_some, ex1, Option.bind_some, e17, Option.bind_some, ex0, Option.bind_some, ex1, Option.bind_some, e24, Option.bind_some, ex30, Option.bind_some, ex31, Option.bind_some, e2, Option.bind_some, e43, Option.bind_some, ex0, Option.bind_some, ex1, Option.bind_some, e44, Option.bind_some, ex0, Option.bind_some, ex1, Option.bind_some, hb, Option.bind_some, hl, Option.bind_some, hx25, K5_25_x2, e30, Option.bind_some, q0, Option.bind_some, ifA_f, e28, Option.bind_some, hl0, Option.bind_some, q0, Option.bind_some, ifA_f, i_add1 (by omega), Option.bind_some]
theorem X9 (m : Mem) (n : Int) : ∃ m', L5_9 (.int .i64 n) (.vec 2 none [.nilp, .ptr m.length 0]) (.int .i64 2) (.int .i64 0) (m ++ [some (Ent.obj true [.lst none true .full [], .lst none true .full [], .nilm, .int .i64 0])]) (K5_9 (finK cfg.P f5.results.toList)) = some (.bool true, m') := by
  obtain ⟨m1, e1, f1⟩ := X9s (m := m ++ [some (Ent.obj true [.lst none true .full [], .lst none true .full [], .nilm, .int .i64 0])]) (x := .nilp) (.inl rfl) n (x78 := .vec 2 none [.nilp, .ptr m.length 0]) (v2 := .vptr [.nilp]) (i := 0) (by omega) rfl (fun _ => rfl) (K5_9 (finK cfg.P f5.results.toList))
  have hd : Ded (m ++ [some (Ent.obj true [.lst none true .full [], .lst none true .full [], .nilm, .int .i64 0])]) (.ptr m.length 0) := .inr ⟨_, rfl, g_eq rfl⟩
  obtain ⟨m2, e2, f2⟩ := X9s (hd.fr f1) n (x78 := .vec 2 none [.nilp, .ptr m.length 0]) (v2 := .vptr [.ptr m.length 0]) (i := 1) (by omega) rfl (fun _ => rfl) (K5_9 (finK cfg.P f5.results.toList))
  refine ⟨m2, ?_⟩
  have e1 : L5_9 (.int .i64 n) (.vec 2 none [.nilp, .ptr m.length 0]) (.int .i64 2) (.int .i64 0) (m ++ [some (Ent.obj true [.lst none true .full [], .lst none true .full [], .nilm, .int .i64 0])]) (K5_9 (finK cfg.P f5.results.toList)) = L5_9 (.int .i64 n) (.vec 2 none [.nilp, .ptr m.length 0]) (.int .i64 2) (.int .i64 1) m1 (K5_9 (finK cfg.P f5.results.toList)) := e1
  have e2 : L5_9 (.int .i64 n) (.vec 2 none [.nilp, .ptr m.length 0]) (.int .i64 2) (.int .i64 1) m1 (K5_9 (finK cfg.P f5.results.toList)) = L5_9 (.int .i64 n) (.vec 2 none [.nilp, .ptr m.length 0]) (.int .i64 2) (.int .i64 2) m2 (K5_9 (finK cfg.P f5.results.toList)) := e2
  rw [e1, e2, L5_9_eq, show binA .other .lss (.int .i64 2) (.int .i64 2) = some (.bool false) from rfl, Option.bind_some, ifA_f, K5_9_x0, pc13, Option.bind_some]
theorem A14z (m : Mem) (z : Bool) (o : Own) (ns : List Int) (hz : z = true → ns = []) (he : armsE ns = 0) :
    ∃ m' s F z' o', AC cfg 32 [IA z o ns] m = some (.tup [.ptr s 0, .int .i64 0], m') ∧ St8 m' s F (IA z' o' ns) 4000 [] ∧ Fr m m' [] ∧ (∀ x ∈ F, m.length ≤ x) ∧ (z' = true → ns = []) := by
  obtain ⟨h1, h2⟩ := armsE_ok he
  obtain ⟨m1, e47, f1⟩ := A47 (m := m) (z := z) (o := o) (ks := ns) (g := 93) (caps := []) (p := fun k => !armB k) (by omega) rfl rfl rfl (fun m1 k _ => ⟨m1, A48 k m1, Fr.refl _ _⟩)
  have ha : ns.all armB = true := List.all_eq_true.2 fun a ha => decide_eq_true (h2 a ha)
  rw [any_not, ha, Bool.not_true] at e47
  obtain ⟨z', o', ec, _, hzz⟩ := clA_IA z ns hz
  have c49 := fun m => pc49 z o ns (by omega) m
  rw [ec] at c49
  have l1 := f1.len
  refine ⟨(m1 ++ [some (Ent.mp .str [])]) ++ [some (Ent.obj true [IA z' o' ns, .lst none true .full [], .mref m1.length, .int .i64 4000])], m1.length + 1, [m1.length + 1, m1.length], z', o', ?_, ?_, (f1.snoc _).snoc _, ?_, hzz⟩
  · have hb : buildA (.agg [(.lst none true .full []), (.lst none true .full []), .nilm, (.int .i64 0)]) [(0, none, IA z' o' ns), (2, none, (.mref m1.length)), (3, none, (.int .i64 4000))] = some (.agg [IA z' o' ns, .lst none true .full [], .mref m1.length, .int .i64 4000]) := rfl
    have hx : ∀ m, boxA none (some 4) m (.agg [IA z' o' ns, .lst none true .full [], .mref m1.length, .int .i64 4000]) = some (.ptr m.length 0, m ++ [some (Ent.obj true [IA z' o' ns, .lst none true .full [], .mref m1.length, .int .i64 4000])]) := fun m => rfl
    rw [T32, len_IA, Option.bind_some, binA_gtr, Option.bind_some, ifA_dec, if_neg (by omega), e47, Option.bind_some, ifA_f]
    repeat ((with_reducible (first | apply bs | apply bsy)); (focus (first | (simp (disch := (first | assumption | omega | (simp only [List.length_append, List.length_set, List.length_cons, List.length_nil]; first | done | omega))) only [List.all_cons, List.all_nil, Bool.and_true, Bool.and_self, beq_self_eq_true, resv1, List.length_map, ld_v3, ld_v1, binA_eql, binA_neq, binA_lss, binA_leq, binA_gtr, binA_geq, loadA_one, un_not, ld_ptr, st_ptr, putE1, objE_obj, Option.bind_some, cut1, cut3, cut4, nil_ptr, fa_ptr, g_lt, g_eq, g_sne, g_seq, new_n, box_n, List.getElem?_cons_zero, List.getElem?_cons_succ, ex0, ex1, Sh.size, cells_int, aok_int, cells_bool, aok_bool, cells_str, aok_str, cells_lst, aok_lst, cells_ptr, aok_ptr, cells_arr, aok_arr, cells_fn, aok_fn, cells_mref, aok_mref, cells_nilp, aok_nilp, cells_agg, shOk_n, shOk_s, lenA_lst, List.length_cons, List.length_nil, if_true, putAt, List.take_succ_cons, List.take_zero, List.drop_succ_cons, List.drop_zero, List.cons_append, List.nil_append, List.append_nil, Nat.zero_add, Nat.reduceAdd, Nat.reduceLeDiff, Nat.le_refl, List.drop_nil, List.take_nil, List.length_append, List.length_set, c49, hb, hx]; first | done | rfl) | rfl)); try dsimp only)
  · refine ⟨m1.length, .lst none true .full [], [], ⟨(by simp (disch := (first | assumption | omega | (simp only [List.length_append, List.length_set, List.length_cons, List.length_nil]; first | done | omega))) only [resv1, g_lt, g_eq, g_sne, g_seq]; first | done | rfl), (by simp (disch := (first | assumption | omega | (simp only [List.length_append, List.length_set, List.length_cons, List.length_nil]; first | done | omega))) only [resv1, g_lt, g_eq, g_sne, g_seq]; first | done | rfl), .none, by simp, by omega, by simp⟩, rfl⟩
  · intro x hx
    simp only [List.mem_cons, List.not_mem_nil, or_false] at hx
    omega
/-- New on arms that are not right. -/
theorem A14x (m : Mem) (z : Bool) (o : Own) (ns : List Int) (hl : ns.length ≤ 100000) (he : armsE ns ≠ 0) : ∃ m', AC cfg 32 [IA z o ns] m = some (.tup [.nilp, .int .i64 (armsE ns)], m') ∧ Fr m m' [] := by
  rw [T32, len_IA, Option.bind_some, binA_gtr, Option.bind_some, ifA_dec]
  by_cases h1 : (ns.length : Int) > 16
  · have e : armsE ns = 2 := by unfold armsE; rw [if_pos (by omega)]
    rw [if_pos h1, e]
    exact ⟨m, rfl, Fr.refl _ _⟩
  · obtain ⟨m1, e47, f1⟩ := A47 (m := m) (z := z) (o := o) (ks := ns) (g := 93) (caps := []) (p := fun k => !armB k) hl rfl rfl rfl (fun m1 k _ => ⟨m1, A48 k m1, Fr.refl _ _⟩)
    rw [any_not] at e47
    have ha : ns.all armB = false := by
      cases hq : ns.all armB with
      | false => rfl
      | true => exact absurd (by unfold armsE; rw [if_neg (by omega), if_pos hq]) he
    have e : armsE ns = 1 := by unfold armsE; rw [if_neg (by omega), ha, if_neg (by simp)]
    rw [ha, Bool.not_false] at e47
    rw [if_neg h1, e47, Option.bind_some, ifA_t, e]
    exact ⟨m1, rfl, f1⟩
theorem DiagramNews_law (z : Bool) (ar : List Int) (n : Int) (hz : z = true → ar = []) : ∃ m', AC cfg 5 [IA z .no ar, .int .i64 n] [] = some (.bool true, m') := by
  have hmin : maxA false (.int .i64 ar.length) (.int .i64 40) = some (.int .i64 (min ar.length 40 : Nat)) := by
    simp only [maxA, if_true, Bool.false_eq_true, if_false]
    congr 2
    split <;> omega
  rw [T5, len_IA, Option.bind_some, hmin, Option.bind_some, slice_IA _ _ _ _ _ (by omega), Option.bind_some]
  generalize hr : ar.take (min ar.length 40) = r
  have hrl : r.length ≤ 40 := by rw [← hr, List.length_take]; omega
  have hzr : z = true → r = [] := fun h => by rw [← hr, hz h]; rfl
  have hbz : buildA (.agg [(.lst none true .full []), (.lst none true .full []), .nilm, (.int .i64 0)]) [] = some (.agg [(.lst none true .full []), (.lst none true .full []), .nilm, (.int .i64 0)]) := rfl
  have hbx : ∀ M : Mem, boxA none (some 4) M (.agg [(.lst none true .full []), (.lst none true .full []), .nilm, (.int .i64 0)]) = some (.ptr M.length 0, M ++ [some (Ent.obj true [(.lst none true .full []), (.lst none true .full []), .nilm, (.int .i64 0)])]) := fun _ => rfl
  have hbs : ∀ q : Nat, buildSliceA none [.nilp, .ptr q 0] = some (.vec 2 none [.nilp, .ptr q 0]) := fun _ => rfl
  have hlv : ∀ q : Nat, lenA false (.vec 2 none [.nilp, .ptr q 0]) = some (.int .i64 2) := fun _ => rfl
  have q0 : binA .other .neq (.int .i64 0) (.int .i64 0) = some (.bool false) := rfl
  have q1 : binA .other .eql (.int .i64 0) (.int .i64 0) = some (.bool true) := rfl
  by_cases he : armsE r = 0
  · obtain ⟨m1, s, F, z', o', e14, st, f1, _, hz'⟩ := A14z [] z .no r hzr he
    obtain ⟨m', e9⟩ := X9 m1 n
    have e50 := A50 st (by omega)
    have hst := st
    obtain ⟨p, na, TT, sa, _⟩ := hst
    have lda : loadA none m1 (.ptr s (0 + 0)) = some (IA z' o' r) := by rw [ld_ptr, sa.hs]; rfl
    have e20 := A20 st (by omega)
    obtain ⟨h16, _⟩ := armsE_ok he
    refine ⟨m', ?_⟩
    obtain ⟨z2, o2, ec, _, _⟩ := clA_IA z' r hz'
    have c49 : pcall (AP cfg) none m1 88 [IA z' o' r] = some (IA z2 o2 r, m1) := by rw [pc49 z' o' r (by omega) m1, ec]
    have e28 : AC cfg 28 [.ptr s 0] m1 = some (IA z2 o2 r, m1) := by
      rw [T28, e50, Option.bind_some, ifA_f, nil_ptr, Option.bind_some, fa_ptr, Option.bind_some, lda, Option.bind_some, c49, Option.bind_some]
    have p33 : pcall (AP cfg) none m1 27 [IA z2 o2 r, IA z .no r] = some (.bool true, m1) := by
      rw [pc33 z2 z o2 .no r r (by omega) m1, decide_eq_true rfl]
    rw [e14, Option.bind_some, ex0, Option.bind_some, ex1, Option.bind_some, pc12, Option.bind_some, he, q0, Option.bind_some, ifA_f, Option.bind_some, ifA_f, q1, Option.bind_some, ifA_t, e28, Option.bind_some, p33, Option.bind_some, un_not, Option.bind_some, Bool.not_true, ifA_f, e20, Option.bind_some]
    rw [show binA .other .neq (.int .i64 (([] : List ND).length : Nat)) (.int .i64 0) = some (.bool false) from rfl, Option.bind_some, ifA_f, hbz, Option.bind_some, hbx, Option.bind_some, hbs, Option.bind_some, hlv, Option.bind_some]
    exact e9
  · obtain ⟨m1, e14, f1⟩ := A14x [] z .no r (by omega) he
    obtain ⟨m', e9⟩ := X9 m1 n
    refine ⟨m', ?_⟩
    rw [e14, Option.bind_some, ex0, Option.bind_some, ex1, Option.bind_some, pc12, Option.bind_some, binA_neq, Option.bind_some, ifA_dec, if_neg (by omega), binA_neq, Option.bind_some, ifA_dec, if_pos he, show binA .pt .neq .nilp .nilp = some (.bool false) from rfl, Option.bind_some, ifA_f, binA_eql, Option.bind_some, ifA_dec, if_neg he, hbz, Option.bind_some, hbx, Option.bind_some, hbs, Option.bind_some, hlv, Option.bind_some]
    exact e9
end Go.Ab

/- slices.Compact of a row that rises. Plain Lean. -/
set_option linter.unusedVariables false
set_option linter.unusedSimpArgs false
namespace Go.Ab

theorem compact_len (zs : List Int) : (Lib.compact zs).length ≤ zs.length := by
  unfold Lib.compact Lib.compactUpTo
  rw [List.length_map]
  have := List.length_filter_le (Lib.keeps zs.toArray) (List.range zs.length)
  rwa [List.length_range] at this
end Go.Ab

/- The deferred closures of the diagram seat: where nothing has panicked they do nothing. -/
set_option linter.unusedVariables false
set_option linter.unusedSimpArgs false
set_option linter.unusedSectionVars false
namespace Go.Ab
open Go.Proofs Go.RowKit

theorem idle72 (caps : Array Value) (w : World) : CallsD Tryz.prog 140 caps .returning w fun e u w' => (∃ v, e = .returned v) ∧ u = .returning ∧ w' = w := by
  refine callsD_of_wpS Tryz.func140 rfl fun c₀ cs hu => ?_
  have hs : 45 ≤ (caps ++ Array.replicate (Tryz.f140.ntmps - caps.size) undef).size := by
    rw [Tryz.ntmps140, Array.size_append, Array.size_replicate]; omega
  generalize caps ++ Array.replicate (Tryz.f140.ntmps - caps.size) undef = T at hs
  apply wpS_seq
  apply wpS_region
  simp [wpOpsS, go_sem, recoverD, hu, Exit.thenS, Act.put, Act.eval, show 9 < T.size by omega, show 4 < T.size by omega]
  apply wpS_seq
  apply wpS_seq
  apply wpS_region
  simp [wpOpsS, go_sem, recoverD, hu, Exit.thenS, Act.put, Act.eval, show 9 < T.size by omega, show 4 < T.size by omega, show 10 < T.size by omega, show 11 < T.size by omega]
  refine wpS_cond (t := true) (by simp [Act.eval, show 11 < T.size by omega]) ?_
  simp only [if_true]
  refine wpS_of_wp (wp_ret ?_)
  cases c₀
  simp_all [bodyPostS, results, Tryz.results140, Exit.thenS]
theorem idle84 (caps : Array Value) (w : World) : CallsD Tryz.prog 177 caps .returning w fun e u w' => (∃ v, e = .returned v) ∧ u = .returning ∧ w' = w := by
  refine callsD_of_wpS Tryz.func177 rfl fun c₀ cs hu => ?_
  have hs : 3 ≤ (caps ++ Array.replicate (Tryz.f177.ntmps - caps.size) undef).size := by
    rw [Tryz.ntmps177, Array.size_append, Array.size_replicate]; omega
  generalize caps ++ Array.replicate (Tryz.f177.ntmps - caps.size) undef = T at hs
  apply wpS_seq
  apply wpS_region
  simp [wpOpsS, go_sem, recoverD, hu, Exit.thenS, Act.put, Act.eval, show 1 < T.size by omega, show 2 < T.size by omega]
  refine wpS_cond (t := false) (by simp [Act.eval, show 2 < T.size by omega]) ?_
  simp only [Bool.false_eq_true, if_false]
  refine wpS_of_wp (wp_skip ?_)
  cases c₀
  simp_all [bodyPostS, results, Tryz.results177]
theorem benD_of {g : Nat} {fn : Func} (hfn : Tryz.prog.funcs[g]? = some fn) (hname : (fn.name == "runtime.NumGoroutine") = false) (hbody : fn.body.isSome) (caps : Array Value)
    (h : ∀ w, CallsD Tryz.prog g caps .returning w fun e u w' => (∃ v, e = .returned v) ∧ u = .returning ∧ w' = w) : BenD Tryz.prog { target := .fn (.func g) caps, args := #[] } := by
  refine ⟨.func g, caps, g, caps, rfl, fun w => ⟨?_, h w⟩⟩
  have hb : fn.body.isNone = false := by cases hb : fn.body <;> simp_all
  simp only [invoke, callFunc, hfn, hname, hb, Sem.run_bind, Sem.run_pure, run_program, Result.andThen_ok, Bool.false_eq_true, if_false, Array.empty_append]
theorem ben72 (caps : Array Value) : BenD Tryz.prog { target := .fn (.func 140) caps, args := #[] } := benD_of Tryz.func140 (by kernel_rfl) (by kernel_rfl) caps (idle72 caps)
theorem ben84 (caps : Array Value) : BenD Tryz.prog { target := .fn (.func 177) caps, args := #[] } := benD_of Tryz.func177 (by kernel_rfl) (by kernel_rfl) caps (idle84 caps)
end Go.Ab

/- Data that can be read, as values of the interpreter: any type of whole numbers, truth values, texts, rows of these, and flat structs. -/
set_option linter.unusedVariables false
set_option linter.unusedSimpArgs false
set_option maxRecDepth 100000
set_option linter.unusedSectionVars false
namespace Go.Ab
open Go.RowKit

def gN : G := ⟨fun _ _ => False, fun _ => False, fun _ => none, fun _ _ => none⟩
def atomT (P : Program) (t : Nat) : Bool := match P.underlying t with
  | some (.int _) | some .bool | some .string | some (.slice _) => true
  | _ => false
def shE (P : Program) (t : Nat) : Sh := match P.underlying t with
  | some (.struct fs) => some fs.size
  | _ => none
/-- What stands in a variable of a type, by depth. -/
def Reads (P : Program) : Nat → Nat → AV → Prop
  | 0, _, _ => False
  | n + 1, t, v => match P.underlying t with
    | some (.int k) => ∃ i, v = .int k i ∧ (Lit.int k i).wf = true
    | some .bool => ∃ b, v = .bool b
    | some .string => ∃ s, v = .str s ∧ s.size ≤ maxLen
    | some (.slice e) => ∃ z es, v = .lst (shE P e) z .no es ∧ (z = true → es = []) ∧ ∀ x ∈ es, Reads P n e x
    | some (.struct fs) => ∃ cs, v = .agg cs ∧ cs.length = fs.size ∧ ∀ i f, fs[i]? = some f → Reads P n f.type (cs.getD i .any)
    | _ => False
def fieldsOk (P : Program) (ok : Nat → Bool) : Nat → List Field → Bool
  | _, [] => true
  | i, f :: l => f.offset == i && P.cellsOf f.type == 1 && atomT P f.type && ok f.type && fieldsOk P ok (i + 1) l
def tyOk (P : Program) : Nat → Nat → Bool
  | 0, _ => false
  | n + 1, t => match P.underlying t with
    | some (.int _) | some .bool | some .string => P.cellsOf t == 1
    | some (.slice e) => P.cellsOf t == 1 && tyOk P n e
    | some (.struct fs) => P.cellsOf t == fs.size && decide (0 < fs.size) && fieldsOk P (tyOk P n) 0 fs.toList
    | _ => false
theorem fieldsOk_get {P : Program} {ok : Nat → Bool} : ∀ {l : List Field} {i0 : Nat}, fieldsOk P ok i0 l = true → ∀ i f, l[i]? = some f → f.offset = i0 + i ∧ P.cellsOf f.type = 1 ∧ atomT P f.type = true ∧ ok f.type = true
  | [], i0, h, i, f, hf => by simp at hf
  | g :: l, i0, h, i, f, hf => by
    simp only [fieldsOk, Bool.and_eq_true, beq_iff_eq] at h
    obtain ⟨⟨⟨⟨h1, h2⟩, h3⟩, h4⟩, h5⟩ := h
    cases i with
    | zero =>
      simp at hf; subst hf
      exact ⟨h1, h2, h3, h4⟩
    | succ i =>
      simp at hf
      obtain ⟨a, b⟩ := fieldsOk_get h5 i f hf
      exact ⟨by omega, b⟩
theorem flatS {s : Nat} (hs : 0 < s) : ∀ {es : List AV}, (∀ e ∈ es, e.cells.length = s) → (flat es).length = es.length * s ∧ ∀ j, j < es.length * s → (flat es).getD j .any = (es.getD (j / s) .any).cells.getD (j % s) .any
  | [], h => ⟨by simp [flat], fun j hj => by simp at hj⟩
  | e :: es, h => by
    have h0 := h e List.mem_cons_self
    obtain ⟨h1, h2⟩ := flatS hs (fun x hx => h x (List.mem_cons_of_mem _ hx))
    have e1 : flat (e :: es) = e.cells ++ flat es := rfl
    have e2 : (e :: es).length * s = es.length * s + s := by rw [List.length_cons, Nat.add_mul, Nat.one_mul]
    refine ⟨by rw [e1, List.length_append, h0, h1, e2]; omega, fun j hj => ?_⟩
    rw [e1, List.getD_eq_getElem?_getD]
    by_cases hj2 : j < s
    · rw [List.getElem?_append_left (by omega), Nat.div_eq_of_lt hj2, Nat.mod_eq_of_lt hj2]
      show _ = e.cells.getD j .any
      rw [List.getD_eq_getElem?_getD]
    · rw [List.getElem?_append_right (by omega), h0, ← List.getD_eq_getElem?_getD, h2 (j - s) (by omega)]
      have e3 : j / s = (j - s) / s + 1 := by
        have := Nat.div_eq_sub_div hs (by omega : s ≤ j)
        omega
      have e4 : j % s = (j - s) % s := Nat.mod_eq_sub_mod (by omega)
      rw [e3, e4, List.getD_cons_succ]
theorem reads_ok {P : Program} : ∀ (n t : Nat) (v : AV), tyOk P n t = true → Reads P n t v → shOk (shE P t) v = true ∧ pl v = true ∧ v.cells.length = P.cellsOf t ∧ 0 < P.cellsOf t ∧ (shE P t).size = P.cellsOf t ∧ (atomT P t = true → atomOk v = true)
  | 0, t, v, ht, _ => by simp [tyOk] at ht
  | n + 1, t, v, ht, h => by
    unfold Reads at h
    unfold tyOk at ht
    unfold shE atomT
    cases hu : P.underlying t with
    | none => rw [hu] at h; exact h.elim
    | some ty =>
      rw [hu] at h ht
      cases ty with
      | int k =>
        obtain ⟨i, rfl, _⟩ := h
        have hc : P.cellsOf t = 1 := by simpa using ht
        exact ⟨rfl, rfl, hc.symm, by omega, hc.symm, fun _ => rfl⟩
      | bool =>
        obtain ⟨i, rfl⟩ := h
        have hc : P.cellsOf t = 1 := by simpa using ht
        exact ⟨rfl, rfl, hc.symm, by omega, hc.symm, fun _ => rfl⟩
      | string =>
        obtain ⟨i, rfl, _⟩ := h
        have hc : P.cellsOf t = 1 := by simpa using ht
        exact ⟨rfl, rfl, hc.symm, by omega, hc.symm, fun _ => rfl⟩
      | slice e =>
        obtain ⟨z, es, rfl, _⟩ := h
        have hc : P.cellsOf t = 1 := by
          simp only [Bool.and_eq_true, beq_iff_eq] at ht
          exact ht.1
        exact ⟨rfl, rfl, hc.symm, by omega, hc.symm, fun _ => rfl⟩
      | struct fs =>
        obtain ⟨cs, rfl, hl, hf⟩ := h
        simp only [Bool.and_eq_true, beq_iff_eq, decide_eq_true_eq] at ht
        obtain ⟨⟨h1, h2⟩, h3⟩ := ht
        have hall : ∀ c ∈ cs, atomOk c = true ∧ pl c = true := by
          intro c hc
          obtain ⟨i, hi, rfl⟩ := List.mem_iff_getElem.1 hc
          have hfi : fs[i]? = some (fs[i]'(by omega)) := Array.getElem?_eq_getElem (by omega)
          obtain ⟨_, b, c2, d⟩ := fieldsOk_get h3 i _ (by rw [Array.getElem?_toList]; exact hfi)
          have r := hf i _ hfi
          rw [List.getD_eq_getElem?_getD, List.getElem?_eq_getElem hi] at r
          have := reads_ok n _ _ d r
          exact ⟨this.2.2.2.2.2 c2, this.2.1⟩
        have hpl : ∀ l : List AV, (∀ c ∈ l, pl c = true) → plL l = true := by
          intro l
          induction l with
          | nil => intro _; rfl
          | cons a l ih =>
            intro h
            show (pl a && plL l) = true
            rw [h a List.mem_cons_self, ih (fun c hc => h c (List.mem_cons_of_mem _ hc))]; rfl
        refine ⟨?_, hpl cs (fun c hc => (hall c hc).2), by show cs.length = _; omega, by omega, h1.symm, fun h => by cases h⟩
        show (cs.length == fs.size && cs.all atomOk) = true
        rw [Bool.and_eq_true]
        exact ⟨by simp [hl], List.all_eq_true.2 fun c hc => (hall c hc).1⟩
      | _ => exact h.elim
section
variable {P : Program} {H : Type} {enc : TypeId × Value → H} {W : World}
theorem rd_cells {w : World} {a : Addr} {n : Nat} {cs : List Value} (h : w.cells? 0 a n = some cs) : cs.length = n ∧ ∀ j, j < n → w.cell? (a.add j) = cs[j]? := by
  unfold World.cells? at h
  rw [if_pos (Nat.zero_le _)] at h
  refine ⟨by simpa using mapM_some_length h, fun j hj => mapM_some_get h j j (by simp [hj])⟩
theorem rd_add {a : Addr} (h : a.spot = none) (j : Nat) : a.add j = ⟨a.block, a.off + j, none⟩ := by
  obtain ⟨b, o, s⟩ := a
  subst h
  exact Addr_add b o j
/-- Whatever can be read is a value of the interpreter. -/
theorem reads : ∀ (n t : Nat), tyOk P n t = true → ∀ {fuel : Nat} {cs : List Value} {x : DataW H × List MemPlace}, DataW.trod enc P W 0 (fun _ => true) true fuel t cs = some x → ∃ v : AV, Reads P n t v ∧ cs.length = P.cellsOf t ∧ ∀ j, j < P.cellsOf t → V W gN (v.cells.getD j .any) (cs.getD j undef)
  | 0, t, ht, _, _, _, _ => by simp [tyOk] at ht
  | n + 1, t, ht, fuel, cs, x, h => by
    have ht0 := ht
    unfold tyOk at ht
    unfold Reads
    cases hu : P.underlying t with
    | none => rw [hu] at ht; cases ht
    | some ty =>
      rw [hu] at ht
      cases ty with
      | int k =>
        have hc : P.cellsOf t = 1 := by simpa using ht
        obtain ⟨i, rfl, _, hw⟩ := DataW.trod_int hu h
        refine ⟨.int k i, ⟨i, rfl, hw⟩, hc.symm, fun j hj => ?_⟩
        obtain rfl : j = 0 := by omega
        exact .int _ _
      | bool =>
        have hc : P.cellsOf t = 1 := by simpa using ht
        obtain ⟨i, rfl, _⟩ := DataW.trod_bool hu h
        refine ⟨.bool i, ⟨i, rfl⟩, hc.symm, fun j hj => ?_⟩
        obtain rfl : j = 0 := by omega
        exact .bool _
      | string =>
        have hc : P.cellsOf t = 1 := by simpa using ht
        obtain ⟨i, rfl, _, hw⟩ := DataW.trod_string hu h
        refine ⟨.str i, ⟨i, rfl, hw⟩, hc.symm, fun j hj => ?_⟩
        obtain rfl : j = 0 := by omega
        exact .str _
      | slice e =>
        simp only [Bool.and_eq_true, beq_iff_eq] at ht
        obtain ⟨hc, hte⟩ := ht
        rcases DataW.trod_slice hu h with ⟨rfl, _⟩ | ⟨a, len, cap, elems, rest, m, _, rfl, _, _, hl, hm, he, hel, hre, _⟩
        · refine ⟨.lst (shE P e) true .no [], ⟨true, [], rfl, fun _ => rfl, fun x hx => by cases hx⟩, hc.symm, fun j hj => ?_⟩
          obtain rfl : j = 0 := by omega
          exact .nils _ .no (.inr rfl)
        · obtain ⟨hrl, hre⟩ := hre rfl
          have raw : ∀ i, i < cap → ∃ y, (W.cells? 0 (a.add (i * P.cellsOf e)) (P.cellsOf e)).bind (DataW.trod enc P W 0 (fun _ => true) true m e) = some y := by
            intro i hi
            by_cases hi2 : i < len
            · have h1 := hel i hi2
              rw [List.getElem?_eq_getElem (by omega)] at h1
              exact ⟨_, h1⟩
            · have h1 := hre (i - len) (by omega)
              rw [List.getElem?_eq_getElem (by omega), show len + (i - len) = i by omega] at h1
              exact ⟨_, h1⟩
          have at1 : ∀ i, i < cap → (i = 0 ∨ a.spot = none) → a.spot = none ∧ ∃ v : AV, Reads P n e v ∧ ∀ j, j < P.cellsOf e → ∃ u, W.cell? ⟨a.block, a.off + (i * P.cellsOf e + j), none⟩ = some u ∧ V W gN (v.cells.getD j .any) u := by
            intro i hi hs0
            obtain ⟨y, hy⟩ := raw i hi
            obtain ⟨cs, h1, h2⟩ := Option.bind_eq_some_iff.1 hy
            obtain ⟨v, hv, hlen, hV⟩ := reads n e hte h2
            have hpos := (reads_ok n e v hte hv).2.2.2.1
            have h3 := (rd_cells h1).2
            have hs : a.spot = none := by
              rcases hs0 with rfl | hs0
              · rw [Nat.zero_mul] at h3
                have h4 := h3 0 hpos
                rw [List.getElem?_eq_getElem (by omega)] at h4
                exact World.cell?_spot h4
              · exact hs0
            refine ⟨hs, v, hv, fun j hj => ?_⟩
            have h4 := h3 j hj
            rw [rd_add hs, Addr_add, Nat.add_assoc, List.getElem?_eq_getElem (by omega)] at h4
            refine ⟨_, h4, ?_⟩
            have := hV j hj
            rwa [List.getD_eq_getElem?_getD (l := cs), List.getElem?_eq_getElem (by omega)] at this
          have hsp : cap = 0 ∨ a.spot = none := by
            by_cases h0 : cap = 0
            · exact .inl h0
            · exact .inr (at1 0 (by omega) (.inl rfl)).1
          have cell : ∀ i, ∃ v : AV, i < cap → Reads P n e v ∧ ∀ j, j < P.cellsOf e → ∃ u, W.cell? ⟨a.block, a.off + (i * P.cellsOf e + j), none⟩ = some u ∧ V W gN (v.cells.getD j .any) u := by
            intro i
            by_cases hi : i < cap
            · obtain ⟨v, hv⟩ := (at1 i hi (.inr (hsp.resolve_left (by omega)))).2
              exact ⟨v, fun _ => hv⟩
            · exact ⟨.any, fun h => absurd h hi⟩
          obtain ⟨f, hf⟩ := Classical.axiomOfChoice cell
          have hlen : ((List.range len).map f).length = len := by simp
          have hmem : ∀ v ∈ (List.range len).map f, Reads P n e v := by
            intro v hv
            obtain ⟨i, hi, rfl⟩ := List.mem_map.1 hv
            exact (hf i (by have := List.mem_range.1 hi; omega)).1
          have hok := fun v hv => reads_ok n e v hte (hmem v hv)
          by_cases hl0 : len = 0
          · subst hl0
            refine ⟨.lst (shE P e) false .no [], ⟨false, [], rfl, (fun h => by cases h), fun x hx => by cases hx⟩, hc.symm, fun j hj => ?_⟩
            obtain rfl : j = 0 := by omega
            exact V.lst (w := W) (g := gN) (shE P e) .no [] a cap (fun _ => undef) hsp (Nat.zero_le _) hm (fun e he => by cases he) (fun j hj => by simp [flat] at hj) (fun j hj => by simp [flat] at hj) trivial
          · have hs0 : 0 < P.cellsOf e := (hok (f 0) (List.mem_map.2 ⟨0, List.mem_range.2 (by omega), rfl⟩)).2.2.2.1
            obtain ⟨fl1, fl2⟩ := flatS hs0 (fun v hv => (hok v hv).2.2.1)
            rw [hlen] at fl1 fl2
            have hcl : ∀ j, j < len * P.cellsOf e → ∃ u, W.cell? ⟨a.block, a.off + j, none⟩ = some u ∧ V W gN ((flat ((List.range len).map f)).getD j .any) u := by
              intro j hj
              have hd : j / P.cellsOf e < len := Nat.div_lt_of_lt_mul (by rw [Nat.mul_comm]; exact hj)
              have h1 := (hf (j / P.cellsOf e) (by omega)).2 (j % P.cellsOf e) (Nat.mod_lt _ hs0)
              have e1 : j / P.cellsOf e * P.cellsOf e + j % P.cellsOf e = j := Nat.div_add_mod' j _
              rw [e1] at h1
              rw [fl2 j hj, List.getD_eq_getElem?_getD (l := (List.range len).map f), List.getElem?_map, List.getElem?_range hd]
              exact h1
            have hus : ∀ j, ∃ u, j < len * P.cellsOf e → W.cell? ⟨a.block, a.off + j, none⟩ = some u ∧ V W gN ((flat ((List.range len).map f)).getD j .any) u := by
              intro j
              by_cases hj : j < len * P.cellsOf e
              · obtain ⟨u, hu⟩ := hcl j hj
                exact ⟨u, fun _ => hu⟩
              · exact ⟨undef, fun h => absurd h hj⟩
            obtain ⟨us, hus⟩ := Classical.axiomOfChoice hus
            refine ⟨.lst (shE P e) false .no ((List.range len).map f), ⟨false, _, rfl, (fun h => by cases h), hmem⟩, hc.symm, fun j hj => ?_⟩
            obtain rfl : j = 0 := by omega
            have hV := V.lst (w := W) (g := gN) (shE P e) .no ((List.range len).map f) a cap us hsp (by rw [hlen]; exact hl) hm
              (fun v hv => ⟨(hok v hv).1, (hok v hv).2.1⟩)
              (fun j hj => by
                rw [fl1] at hj
                exact ⟨(hus j hj).1, fun h => h, fun h => h⟩)
              (fun j hj => by
                rw [fl1] at hj
                exact (hus j hj).2) trivial
            rw [hlen] at hV
            exact hV
      | struct fs =>
        simp only [Bool.and_eq_true, beq_iff_eq, decide_eq_true_eq] at ht
        obtain ⟨⟨h1, h2⟩, h3⟩ := ht
        obtain ⟨xs, m, _, _, hcl, hxl, hf⟩ := DataW.trod_struct hu h
        have fld : ∀ i, ∃ v : AV, i < fs.size → ∀ f, fs[i]? = some f → Reads P n f.type v ∧ V W gN v (cs.getD i undef) := by
          intro i
          by_cases hi : i < fs.size
          · have hfi : fs[i]? = some fs[i] := Array.getElem?_eq_getElem hi
            obtain ⟨o, c, a, k⟩ := fieldsOk_get h3 i fs[i] (by rw [Array.getElem?_toList]; exact hfi)
            have hx := hf i fs[i] hfi
            rw [List.getElem?_eq_getElem (by omega)] at hx
            obtain ⟨v, hv, hlen, hV⟩ := reads n _ k hx
            refine ⟨v, fun _ f hf => ?_⟩
            rw [hfi] at hf
            obtain rfl := Option.some.inj hf
            refine ⟨hv, ?_⟩
            have h0 := hV 0 (by omega)
            have hat := (reads_ok n _ v k hv).2.2.2.2.2 a
            have hcells : v.cells = [v] := by
              cases v <;> first | rfl | (simp [atomOk] at hat)
            rw [hcells, o, Nat.zero_add, c] at h0
            have e0 : ((cs.drop i).take 1).getD 0 undef = cs.getD i undef := by
              rw [List.getD_eq_getElem?_getD, List.getD_eq_getElem?_getD, List.getElem?_take_of_lt (by omega), List.getElem?_drop]; rfl
            rw [e0] at h0
            exact h0
          · exact ⟨.any, fun h => absurd h hi⟩
        obtain ⟨F, hF⟩ := Classical.axiomOfChoice fld
        have hg : ∀ i, i < fs.size → ((List.range fs.size).map F).getD i .any = F i := by
          intro i hi
          rw [List.getD_eq_getElem?_getD, List.getElem?_map, List.getElem?_range hi]; rfl
        refine ⟨.agg ((List.range fs.size).map F), ⟨_, rfl, by simp, fun i f hf => ?_⟩, hcl, fun j hj => ?_⟩
        · have hi : i < fs.size := (Array.getElem?_eq_some_iff.1 hf).1
          rw [hg i hi]
          exact (hF i hi f hf).1
        · rw [h1] at hj
          show V W gN (((List.range fs.size).map F).getD j .any) _
          rw [hg j hj]
          exact (hF j hj fs[j] (Array.getElem?_eq_getElem hj)).2
      | _ => cases ht
theorem read_slice {n t e : Nat} (ht : tyOk P n t = true) {v : Value} {d : DataW H} {ps : List MemPlace} (hu : P.underlying t = some (.slice e)) (hv : ∃ a len cap, v = .slice a len cap) (h : DataW.Trod enc P W 0 (fun _ => true) true t v d ps) : ∃ y : AV, V W gN y v ∧ Reads P n t y := by
  obtain ⟨a, len, cap, rfl⟩ := hv
  obtain ⟨fuel, h⟩ := h
  have h : DataW.trod enc P W 0 (fun _ => true) true fuel t [.slice a len cap] = some (d, ps) := h
  obtain ⟨y, hy, hl, hV⟩ := reads n t ht h
  obtain ⟨_, _, h3, _, _, h6⟩ := reads_ok n t y ht hy
  have hat : atomT P t = true := by unfold atomT; rw [hu]
  have hc : y.cells = [y] := by
    have := h6 hat
    cases y <;> first | rfl | (simp [atomOk] at this)
  have := hV 0 (by rw [← hl]; exact Nat.zero_lt_one)
  rw [hc] at this
  exact ⟨y, this, hy⟩
end
end Go.Ab

/- What the rows of the diagram seat share: the settings are sound; the table of powers; arguments read as data. -/
set_option linter.unusedVariables false
set_option linter.unusedSimpArgs false
set_option maxRecDepth 100000
namespace Go.Ab
open Go.Proofs Go.Proofs.Tryz Go.RowKit

theorem get_nil (nm : Nat) : Mem.get ([] : Mem) nm = none := by simp [Mem.get]
theorem memR0 {w : World} (h : Yd.tab w) : MemR w.heap.size w gN [] where
  obj nm bx cs h := by rw [get_nil] at h; cases h
  tok nm n sz h := by rw [get_nil] at h; cases h
  resv nm h := ⟨rfl, fun _ => rfl⟩
  fresh nm h := ⟨rfl, fun _ => rfl⟩
  inj nm nm' b h := by unfold blk at h; rw [get_nil] at h; cases h
  wrLt b off h := h.elim
  inv w' k := Yd.tab_below (Yd.tab_lt h) h k
  boxLt b h := h.elim
  mp nm kk es h := by rw [get_nil] at h; cases h
theorem cfgOk : CfgOk cfg where
  ben g h caps := by
    have h : tokGet benOf g = true := h
    unfold benOf at h
    simp only [tokGet] at h
    split at h
    · rename_i e; obtain rfl : 140 = g := Nat.eq_of_beq_eq_true e; exact ben72 caps
    · split at h
      · rename_i e; obtain rfl : 177 = g := Nat.eq_of_beq_eq_true e; exact ben84 caps
      · cases h
  name g fn h := by
    have hall : (Tryz.prog.funcs.toList.all fun fn => !(fn.name == "runtime.NumGoroutine")) = true := by kernel_rfl
    have hm : fn ∈ Tryz.prog.funcs.toList := by
      rw [Array.mem_toList_iff]
      exact Array.mem_of_getElem? h
    have := List.all_eq_true.1 hall fn hm
    simpa using this
  lib g h hh := by
    have hh : (match Nat.beq g 141 with | true => some nameA | false => none) = some h := hh
    split at hh
    · rename_i e
      obtain rfl : g = 141 := Nat.eq_of_beq_eq_true e
      obtain rfl := Option.some.inj hh
      exact ⟨⟨f141, at141, by kernel_rfl⟩, fun vs v hv m => name_ok vs v hv m⟩
    · cases hh
  libm g h hh := by
    have hh : (match Nat.beq g 148 with | true => some sortA | false => match Nat.beq g 149 with | true => some compactA | false => none) = some h := hh
    split at hh
    · rename_i e
      obtain rfl : g = 148 := Nat.eq_of_beq_eq_true e
      obtain rfl := Option.some.inj hh
      exact ⟨⟨f148, at148, by kernel_rfl⟩, fun vs m v m' hv => sort_ok (fun blk cap zs w hH hb hs => Tryz.slices_Sort_int blk 0 cap zs w hH hb hs) (fun p cap w => Tryz.slices_Sort_int_none p cap w) vs m v m' hv⟩
    · split at hh
      · rename_i e
        obtain rfl : g = 149 := Nat.eq_of_beq_eq_true e
        obtain rfl := Option.some.inj hh
        exact ⟨⟨f149, (show Tryz.prog.funcs[149]? = some f149 by kernel_rfl), by kernel_rfl⟩, fun vs m v m' hv => compact_ok (fun blk cap zs w hH hs hc => Tryz.slices_Compact_int blk 0 cap zs w hH hs hc) (fun p cap w => Tryz.slices_Compact_int_empty p cap w) compact_len vs m v m' hv⟩
      · cases hh
/-- A law that answers true in values answers true on the machine, and turns nothing that was there. -/
theorem law_calls {f : Nat} {args : List AV} {vs : Array Value} {W : World} (ht : Yd.tab W) (h : ∃ m', AC cfg f args [] = some (.bool true, m')) (hl : args.length = vs.size) (hv : ∀ j, j < args.length → V W gN (args.getD j .any) (vs.getD j undef)) :
    Calls Tryz.prog f vs W fun e W' => e = .returned (.bool true) ∧ Below W.heap.size W W' := by
  obtain ⟨m', hm'⟩ := h
  refine ((AC_sound cfgOk f args [] _ _ hm').1 W.heap.size W gN vs (memR0 ht) (Nat.le_refl _) hl hv).mono ?_
  rintro e W' ⟨v', g', rfl, hs, _, hv'⟩
  cases hv'
  exact ⟨rfl, hs.below⟩
/-! ### The table of powers -/
abbrev laidOf : List (String × DataW Unit) := YtiipgpkgcdhbfaaGreatDoor.Rows.diagramNewsRow.laid
theorem tab_of_laid {W : World} (h : laidMetH Tryz.prog laidOf W) : Yd.tab W := by
  rw [MakeChecks.laidMetH_plain _ _ _ (by kernel_rfl)] at h
  obtain ⟨ps, ⟨g1, t1, cs1, fuel1, p1, q1, _, _, _, _, ⟨g2, t2, cs2, fuel2, p2, q2, _, _, _, _, ⟨g, t, cs, fuel, p, q, hg, ht, hv, hd, _, _⟩, _⟩, _⟩, _⟩ := h
  obtain rfl := Option.some.inj (Yd.globalPow.symm.trans hg)
  obtain rfl := Option.some.inj ((show (Tryz.prog.globals[0]?).map (·.type) = some 246 by kernel_rfl).symm.trans ht)
  unfold Yd.tab Lib.TabIs
  rw [hv]
  have := Lib.cells_of_tab (zs := Lib.pow10Tab) (k := .u64) Tryz.underlying246 Tryz.underlying117 (by kernel_rfl) (by kernel_rfl) hd
  rw [← this]
/-! ### Types, readers -/
theorem u3 : Tryz.prog.underlying 3 = some (.int .i64) := by kernel_rfl
theorem u4 : Tryz.prog.underlying 4 = some .bool := by kernel_rfl
theorem u22 : Tryz.prog.underlying 22 = some (.slice 3) := by kernel_rfl
noncomputable def fieldsOf (t : Nat) : Array Field := match Tryz.prog.underlying t with
  | some (.struct fs) => fs
  | _ => #[]
theorem s3 : shE Tryz.prog 3 = none := by unfold shE; rw [u3]
theorem sz {t : Nat} {l : List Nat} (h : (fieldsOf t).toList.map (fun f => f.type) = l) : (fieldsOf t).size = l.length := by
  rw [← h, List.length_map, Array.length_toList]
theorem rd_slice {n t e : Nat} {v : AV} (ht : Tryz.prog.underlying t = some (.slice e)) (h : Reads Tryz.prog (n + 1) t v) : ∃ z es, v = .lst (shE Tryz.prog e) z .no es ∧ (z = true → es = []) ∧ ∀ x ∈ es, Reads Tryz.prog n e x := by
  unfold Reads at h
  rw [ht] at h
  exact h
theorem rd_int {n : Nat} {v : AV} (h : Reads Tryz.prog (n + 1) 3 v) : ∃ i, v = .int .i64 i ∧ Yd.i64 i := by
  unfold Reads at h
  rw [u3] at h
  obtain ⟨i, h1, hw⟩ := h
  refine ⟨i, h1, ?_⟩
  simp only [Lit.wf, Bool.and_eq_true, decide_eq_true_eq] at hw
  exact hw
theorem list_map' {α : Type} {f : α → AV} {Q : α → Prop} : ∀ {es : List AV}, (∀ x ∈ es, ∃ a, x = f a ∧ Q a) → ∃ l : List α, es = l.map f ∧ ∀ a ∈ l, Q a
  | [], _ => ⟨[], rfl, by simp⟩
  | x :: es, h => by
    obtain ⟨a, rfl, ha⟩ := h x List.mem_cons_self
    obtain ⟨l, rfl, hl⟩ := list_map' (f := f) (Q := Q) fun y hy => h y (List.mem_cons_of_mem _ hy)
    exact ⟨a :: l, rfl, fun b hb => by
      rcases List.mem_cons.1 hb with rfl | hb
      · exact ha
      · exact hl b hb⟩
theorem rd_ints {n : Nat} {v : AV} (h : Reads Tryz.prog (n + 2) 22 v) : ∃ z ns, v = IA z .no ns ∧ (z = true → ns = []) ∧ ∀ k ∈ ns, Yd.i64 k := by
  obtain ⟨z, es, rfl, hz, he⟩ := rd_slice u22 h
  obtain ⟨ns, rfl, hd⟩ := list_map' (f := AV.int .i64) (Q := Yd.i64) (fun x hx => rd_int (he x hx))
  exact ⟨z, ns, by rw [s3], fun h => List.map_eq_nil_iff.1 (hz h), hd⟩
theorem ok22 : tyOk Tryz.prog 2 22 = true := by kernel_rfl
section
variable {H : Type} {enc : TypeId × Value → H} {W : World}
theorem ints_read {v : Value} {d : DataW H} {ps : List MemPlace} (hv : ∃ a len cap, v = .slice a len cap) (h : DataW.Trod enc Tryz.prog W 0 (fun _ => true) true 22 v d ps) : ∃ z ns, V W gN (IA z .no ns) v ∧ (z = true → ns = []) ∧ ∀ k ∈ ns, Yd.i64 k := by
  obtain ⟨y, hy, hr⟩ := read_slice ok22 u22 hv h
  obtain ⟨z, ns, rfl, hc⟩ := rd_ints hr
  exact ⟨z, ns, hy, hc⟩
end
end Go.Ab
