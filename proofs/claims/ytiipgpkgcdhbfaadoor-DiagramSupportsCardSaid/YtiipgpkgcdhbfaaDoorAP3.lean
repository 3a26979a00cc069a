/- The store's methods: Leaf, Make, Node, Count, New, by value. -/
import Derived.Test.YtiipgpkgcdhbfaaDoorAP2
set_option linter.unusedVariables false
set_option linter.unusedSimpArgs false
set_option linter.unusedSectionVars false
set_option maxRecDepth 100000
namespace Go.Ab
open Go.Proofs Go.Proofs.Tryd

/-- A row of whole numbers. -/
abbrev IA (z : Bool) (o : Own) (ns : List Int) : AV := .lst none z o (ns.map (AV.int .i64))
theorem fz_IA (z : Bool) (o : Own) (ns : List Int) : Fz (IA z o ns) (IA z o.fr ns) := fun m => by cases o <;> rfl
theorem len_IA (z : Bool) (o : Own) (ns : List Int) : lenA false (IA z o ns) = some (.int .i64 ns.length) := by
  rw [lenA_lst, List.length_map]
theorem idx_IA {z : Bool} {o : Own} {ns : List Int} {k : IntKind} {i : Nat} (h : i < ns.length) : indexAddrA none (IA z o ns) (.int k i) = some (.vptr [.int .i64 ns[i]]) := by
  simp [indexAddrA, h, AV.cells]
theorem idx_IA0 {z : Bool} {o : Own} {ns : List Int} {k : IntKind} (h : 0 < ns.length) : indexAddrA none (IA z o ns) (.int k 0) = some (.vptr [.int .i64 ns[0]]) := idx_IA (i := 0) h
/-! ### Clone -/
def clA (z : Bool) (ns : List Int) : AV := if z then .lst none true .full [] else if ns = [] then .lst none false .full [] else IA false .no ns
theorem V49 (z : Bool) (o : Own) (ns : List Int) (hl : ns.length ≤ 1000000) : AP cfg 32 [IA z o ns] = some (clA z ns) := by
  have e0 : binA .sl .eql (IA z o ns) (.lst none true .full []) = some (.bool z) := rfl
  cases z with
  | true =>
    refine AP_of (m := []) (v := .lst none true .full []) (l := []) ?_ rfl rfl
    rw [T32, e0, Option.bind_some, ifA_t]
  | false =>
    cases ns with
    | nil =>
      refine AP_of (m := []) (v := .lst none false .full []) (l := []) ?_ rfl rfl
      rw [T32, e0, Option.bind_some, ifA_f]
      rfl
    | cons n ns =>
      refine AP_of (m := [some (Ent.tok (0 + (ns.length + 1)) 1)]) (v := .lst none false (.tok 0 3) ((n :: ns).map (AV.int .i64))) (l := []) ?_ rfl rfl
      rw [T32, e0, Option.bind_some, ifA_f, show buildSliceA none [] = some (.lst none false .full []) from rfl, Option.bind_some]
      have hb : (0 + (ns.length + 1)) * 8 ≤ roomA := by unfold roomA; simp at hl; omega
      simp only [appA, List.map_cons, List.length_nil, List.length_cons, List.length_map, hb, if_true, or_true, Bool.false_eq_true, if_false, newAt, List.length_nil, List.nil_append, Option.bind_some, Sh.size]
theorem pc49 (z : Bool) (o : Own) (ns : List Int) (hl : ns.length ≤ 1000000) (m : Mem) : pcall (AP cfg) none m 32 [IA z o ns] = some (clA z ns, m) := by
  rw [pcall1 (fz_IA z o ns), V49 _ _ _ hl]; rfl
/-! ### Small functions -/
theorem V51 (n : Int) : AP cfg 33 [.int .i64 n] = some (.bool (decide (0 ≤ n ∧ n ≤ 2147483647))) := by
  refine AP_of (m := []) (v := .bool (decide (0 ≤ n ∧ n ≤ 2147483647))) (l := []) ?_ rfl rfl
  rw [T33, binA_geq, Option.bind_some, ifA_dec]
  by_cases h : n ≥ 0
  · rw [if_pos h, binA_leq, Option.bind_some]
    congr 3
    exact decide_eq_decide.2 (by omega)
  · rw [if_neg h]
    congr 3
    exact (decide_eq_false (by omega)).symm
theorem pc51 (n : Int) (m : Mem) : pcall (AP cfg) none m 33 [.int .i64 n] = some (.bool (decide (0 ≤ n ∧ n ≤ 2147483647)), m) := by
  rw [pcall1 (fz_int _ _), V51]; rfl
section
variable {m : Mem} {s : Nat} {F : List Nat} {arms : AV} {most : Int} {l : List ND}
theorem A50 (h : St8 m s F arms most l) (hm : most ≠ 0) : AC cfg 24 [.ptr s 0] m = some (.bool false, m) := by
  obtain ⟨p, na, T, h, rfl⟩ := h
  have hs := h.hs
  rw [T24, show binA .pt .eql (.ptr s 0) .nilp = some (.bool false) from rfl, Option.bind_some, ifA_f]
  repeat ((with_reducible (first | apply bs | apply bsy)); (focus (first | (simp (disch := (first | assumption | omega | (simp only [List.length_append, List.length_set, List.length_cons, List.length_nil]; first | done | omega))) only [List.all_cons, List.all_nil, Bool.and_true, Bool.and_self, beq_self_eq_true, resv1, List.length_map, ld_v3, ld_v1, binA_eql, binA_neq, binA_lss, binA_leq, binA_gtr, binA_geq, loadA_one, un_not, ld_ptr, st_ptr, putE1, objE_obj, Option.bind_some, cut1, cut3, cut4, nil_ptr, fa_ptr, g_lt, g_eq, g_sne, g_seq, new_n, box_n, List.getElem?_cons_zero, List.getElem?_cons_succ, ex0, ex1, Sh.size, cells_int, aok_int, cells_bool, aok_bool, cells_str, aok_str, cells_lst, aok_lst, cells_ptr, aok_ptr, cells_arr, aok_arr, cells_fn, aok_fn, cells_mref, aok_mref, cells_nilp, aok_nilp, cells_agg, shOk_n, shOk_s, lenA_lst, List.length_cons, List.length_nil, if_true, putAt, List.take_succ_cons, List.take_zero, List.drop_succ_cons, List.drop_zero, List.cons_append, List.nil_append, List.append_nil, Nat.zero_add, Nat.reduceAdd, Nat.reduceLeDiff, Nat.le_refl, List.drop_nil, List.take_nil, List.length_append, List.length_set, hs]; first | done | rfl) | rfl)); try dsimp only)
  rw [show (decide (most = 0)) = false from decide_eq_false hm]
theorem A56 (h : St8 m s F arms most l) (i : Int) : AC cfg 25 [.ptr s 0, .int .i64 i] m = some (.bool (decide (0 ≤ i ∧ i < l.length)), m) := by
  obtain ⟨p, na, T, h, rfl⟩ := h
  have hs := h.hs
  have hlen : lenA false na = some (.int .i64 l.length) := by
    cases h.hn with
    | none => rfl
    | some t l ht => rw [lenA_lst, List.length_map]
  rw [T25, binA_geq, Option.bind_some, ifA_dec]
  by_cases h0 : i ≥ 0
  · rw [if_pos h0]
    repeat ((with_reducible (first | apply bs | apply bsy)); (focus (first | (simp (disch := (first | assumption | omega | (simp only [List.length_append, List.length_set, List.length_cons, List.length_nil]; first | done | omega))) only [List.all_cons, List.all_nil, Bool.and_true, Bool.and_self, beq_self_eq_true, resv1, List.length_map, ld_v3, ld_v1, binA_eql, binA_neq, binA_lss, binA_leq, binA_gtr, binA_geq, loadA_one, un_not, ld_ptr, st_ptr, putE1, objE_obj, Option.bind_some, cut1, cut3, cut4, nil_ptr, fa_ptr, g_lt, g_eq, g_sne, g_seq, new_n, box_n, List.getElem?_cons_zero, List.getElem?_cons_succ, ex0, ex1, Sh.size, cells_int, aok_int, cells_bool, aok_bool, cells_str, aok_str, cells_lst, aok_lst, cells_ptr, aok_ptr, cells_arr, aok_arr, cells_fn, aok_fn, cells_mref, aok_mref, cells_nilp, aok_nilp, cells_agg, shOk_n, shOk_s, lenA_lst, List.length_cons, List.length_nil, if_true, putAt, List.take_succ_cons, List.take_zero, List.drop_succ_cons, List.drop_zero, List.cons_append, List.nil_append, List.append_nil, Nat.zero_add, Nat.reduceAdd, Nat.reduceLeDiff, Nat.le_refl, List.drop_nil, List.take_nil, List.length_append, List.length_set, hs, hlen]; first | done | rfl) | rfl)); try dsimp only)
    congr 3
    exact decide_eq_decide.2 (by omega)
  · rw [if_neg h0, show (decide (0 ≤ i ∧ i < l.length)) = false from decide_eq_false (by omega)]
/-- What a node's variable is to its place; a leaf stands behind all. -/
def abv (a : Nat) (n : ND) : Int := if n.var ≥ 0 then n.var else a
theorem na_idx {na : AV} {T : List Nat} (h : NA m na l T) {i : Nat} (hi : i < l.length) : indexAddrA (some 3) na (.int .i64 i) = some (.vptr [.int .i64 l[i].var, kidsA l[i], .int .i64 l[i].leaf]) := by
  cases h with
  | none => simp at hi
  | some t l ht => simp [indexAddrA, hi]; rfl
theorem kidsA_ok (n : ND) : atomOk (kidsA n) = true := by unfold kidsA; split <;> rfl
theorem kidsA_cells (n : ND) : (kidsA n).cells = [kidsA n] := by unfold kidsA; split <;> rfl
theorem box_av (n : ND) (m : Mem) (h : Mem.get m m.length = none) : storeA (some 3) (m ++ [some (Ent.obj true [.int .i64 0, .lst none true .full [], .int .i64 0])]) (.ptr m.length 0) (.agg [.int .i64 n.var, kidsA n, .int .i64 n.leaf]) = some (m ++ [some (Ent.obj true [.int .i64 n.var, kidsA n, .int .i64 n.leaf])]) := by
  have e : shOk (some 3) (.agg [.int .i64 n.var, kidsA n, .int .i64 n.leaf]) = true := by unfold kidsA; split <;> rfl
  rw [st_ptr, g_eq rfl, objE_obj, Option.bind_some]
  simp [putE1, Sh.size, e, putAt, AV.cells]
theorem get_len (m : Mem) : Mem.get m m.length = none := by simp [Mem.get]
theorem A57 {z : Bool} {o : Own} {ar : List Int} (h : St8 m s F (IA z o ar) most l) {i : Nat} (hi : i < l.length) : ∃ m', AC cfg 50 [.ptr s 0, .int .i64 i] m = some (.int .i64 (abv ar.length l[i]), m') ∧ Fr m m' [] := by
  obtain ⟨p, na, T, h, rfl⟩ := h
  have hs := h.hs
  have hsl := get_lt hs
  have hidx := na_idx h.hn hi
  have bx := box_av l[i] m (get_len m)
  refine ⟨_, ?_, Fr.app m (some (Ent.obj true [.int .i64 l[i].var, kidsA l[i], .int .i64 l[i].leaf])) []⟩
  rw [T50]
  repeat ((with_reducible (first | apply bs | apply bsy)); (focus (first | (simp (disch := (first | assumption | omega | (simp only [List.length_append, List.length_set, List.length_cons, List.length_nil]; first | done | omega))) only [List.all_cons, List.all_nil, Bool.and_true, Bool.and_self, beq_self_eq_true, resv1, List.length_map, ld_v3, ld_v1, binA_eql, binA_neq, binA_lss, binA_leq, binA_gtr, binA_geq, loadA_one, un_not, ld_ptr, st_ptr, putE1, objE_obj, Option.bind_some, cut1, cut3, cut4, nil_ptr, fa_ptr, g_lt, g_eq, g_sne, g_seq, new_n, box_n, List.getElem?_cons_zero, List.getElem?_cons_succ, ex0, ex1, Sh.size, cells_int, aok_int, cells_bool, aok_bool, cells_str, aok_str, cells_lst, aok_lst, cells_ptr, aok_ptr, cells_arr, aok_arr, cells_fn, aok_fn, cells_mref, aok_mref, cells_nilp, aok_nilp, cells_agg, shOk_n, shOk_s, lenA_lst, List.length_cons, List.length_nil, if_true, putAt, List.take_succ_cons, List.take_zero, List.drop_succ_cons, List.drop_zero, List.cons_append, List.nil_append, List.append_nil, Nat.zero_add, Nat.reduceAdd, Nat.reduceLeDiff, Nat.le_refl, List.drop_nil, List.take_nil, List.length_append, List.length_set, hs, hidx, bx]; first | done | rfl) | rfl)); try dsimp only)
  rw [ifA_dec]
  by_cases hv : l[i].var ≥ 0
  · rw [if_pos hv]
    repeat ((with_reducible (first | apply bs | apply bsy)); (focus (first | (simp (disch := (first | assumption | omega | (simp only [List.length_append, List.length_set, List.length_cons, List.length_nil]; first | done | omega))) only [List.all_cons, List.all_nil, Bool.and_true, Bool.and_self, beq_self_eq_true, resv1, List.length_map, ld_v3, ld_v1, binA_eql, binA_neq, binA_lss, binA_leq, binA_gtr, binA_geq, loadA_one, un_not, ld_ptr, st_ptr, putE1, objE_obj, Option.bind_some, cut1, cut3, cut4, nil_ptr, fa_ptr, g_lt, g_eq, g_sne, g_seq, new_n, box_n, List.getElem?_cons_zero, List.getElem?_cons_succ, ex0, ex1, Sh.size, cells_int, aok_int, cells_bool, aok_bool, cells_str, aok_str, cells_lst, aok_lst, cells_ptr, aok_ptr, cells_arr, aok_arr, cells_fn, aok_fn, cells_mref, aok_mref, cells_nilp, aok_nilp, cells_agg, shOk_n, shOk_s, lenA_lst, List.length_cons, List.length_nil, if_true, putAt, List.take_succ_cons, List.take_zero, List.drop_succ_cons, List.drop_zero, List.cons_append, List.nil_append, List.append_nil, Nat.zero_add, Nat.reduceAdd, Nat.reduceLeDiff, Nat.le_refl, List.drop_nil, List.take_nil, List.length_append, List.length_set, hs]; first | done | rfl) | rfl)); try dsimp only)
    rw [abv, if_pos hv]
  · rw [if_neg hv]
    repeat ((with_reducible (first | apply bs | apply bsy)); (focus (first | (simp (disch := (first | assumption | omega | (simp only [List.length_append, List.length_set, List.length_cons, List.length_nil]; first | done | omega))) only [List.all_cons, List.all_nil, Bool.and_true, Bool.and_self, beq_self_eq_true, resv1, List.length_map, ld_v3, ld_v1, binA_eql, binA_neq, binA_lss, binA_leq, binA_gtr, binA_geq, loadA_one, un_not, ld_ptr, st_ptr, putE1, objE_obj, Option.bind_some, cut1, cut3, cut4, nil_ptr, fa_ptr, g_lt, g_eq, g_sne, g_seq, new_n, box_n, List.getElem?_cons_zero, List.getElem?_cons_succ, ex0, ex1, Sh.size, cells_int, aok_int, cells_bool, aok_bool, cells_str, aok_str, cells_lst, aok_lst, cells_ptr, aok_ptr, cells_arr, aok_arr, cells_fn, aok_fn, cells_mref, aok_mref, cells_nilp, aok_nilp, cells_agg, shOk_n, shOk_s, lenA_lst, List.length_cons, List.length_nil, if_true, putAt, List.take_succ_cons, List.take_zero, List.drop_succ_cons, List.drop_zero, List.cons_append, List.nil_append, List.append_nil, Nat.zero_add, Nat.reduceAdd, Nat.reduceLeDiff, Nat.le_refl, List.drop_nil, List.take_nil, List.length_append, List.length_set, hs, len_IA]; first | done | rfl) | rfl)); try dsimp only)
    rw [abv, if_neg hv]
/-! ### leaf, node -/
def leafN (x : Int) : ND := ⟨-1, [], x⟩
theorem leafN_ok {x : Int} (h : 0 ≤ x ∧ x ≤ 2147483647) : (leafN x).ok := .inl ⟨rfl, rfl, h⟩
theorem A54 (h : St8 m s F arms most l) {x : Int} (hx : 0 ≤ x ∧ x ≤ 2147483647) (hl : (l.length : Int) < most) (hmo : most ≤ 100000) :
    ∃ m' F', AC cfg 36 [.ptr s 0, .int .i64 x] m = some (.int .i64 (l.idxOf (leafN x) : Nat), m') ∧ St8 m' s F' arms most (ins l (leafN x)) ∧ Fr m m' F ∧ Gr m F F' := by
  obtain ⟨m', F', e, h1, h2, h3⟩ := put_St h (leafN_ok hx) (z := true) (o := .full) rfl hl hmo
  refine ⟨m', F', ?_, h1, h2, h3⟩
  have e : AC cfg 48 [.ptr s 0, .agg [.int .i64 (-1), .lst none true .full [], .int .i64 x]] m = _ := e
  rw [T36, show buildA (.agg [(.int .i64 0), (.lst none true .full []), (.int .i64 0)]) [(0, none, (.int .i64 (-1))), (2, none, .int .i64 x)] = some (.agg [.int .i64 (-1), .lst none true .full [], .int .i64 x]) from rfl, Option.bind_some, e, Option.bind_some]
def nodeN (v : Int) (ks : List Int) : ND := ⟨v, ks, 0⟩
/-- What node puts: where all kids are one, that kid; else the node. -/
def nodeR (l : List ND) (v : Int) (ks : List Int) : Int × List ND := if ks.all (fun k => k == ks.headD 0) then (ks.headD 0, l) else (((l.idxOf (nodeN v ks) : Nat) : Int), ins l (nodeN v ks))
theorem nodeR_cons (l : List ND) (v k0 : Int) (ks : List Int) : nodeR l v (k0 :: ks) = if (k0 :: ks).all (fun k => k == k0) then (k0, l) else (((l.idxOf (nodeN v (k0 :: ks)) : Nat) : Int), ins l (nodeN v (k0 :: ks))) := rfl
theorem W59 (x0 : AV) (v : Int) (z : Bool) (o : Own) (k0 : Int) (ks : List Int) (hlen : (k0 :: ks).length ≤ 1000) (K : Ex → St → Option (AV × Mem)) : ∀ j i : Nat, i + j = (k0 :: ks).length →
    L52_2 x0 (.int .i64 v) (IA z o (k0 :: ks)) (IA z o (k0 :: ks)) (.int .i64 (k0 :: ks).length) (.int .i64 i) m K =
      if ((k0 :: ks).drop i).all (fun k => k == k0) then K (.exit 0) (O52_2 (IA z o (k0 :: ks)) m) else
        (AC cfg 48 [x0, .agg [.int .i64 v, IA z o (k0 :: ks), .int .i64 0]] m).bind fun r8 => K .ret (R52_2 r8.1 r8.2)
  | 0, i, h => by
    rw [L52_2_eq, binA_lss, Option.bind_some, ifA_dec, if_neg (by omega), List.drop_eq_nil_of_le (by omega)]; rfl
  | j + 1, i, h => by
    have hi : i < (k0 :: ks).length := by omega
    rw [L52_2_eq, binA_lss, Option.bind_some, ifA_dec, if_pos (by omega), idx_IA hi, Option.bind_some, loadA_one, Option.bind_some, idx_IA0 (by simp), Option.bind_some, loadA_one, Option.bind_some, binA_neq, Option.bind_some, ifA_dec, List.drop_eq_getElem_cons hi, List.all_cons]
    have hb : ∀ (a b : Int), buildA (.agg [(.int .i64 0), (.lst none true .full []), (.int .i64 0)]) [(0, none, .int .i64 v), (1, none, IA z o (k0 :: ks))] = some (.agg [.int .i64 v, IA z o (k0 :: ks), .int .i64 0]) := fun _ _ => rfl
    by_cases he : (k0 :: ks)[i] = k0
    · rw [if_neg (by simpa using he), i_add1 (by omega), Option.bind_some, W59 x0 v z o k0 ks hlen K j (i + 1) (by omega), show ((k0 :: ks)[i] == k0) = true by simpa using he, Bool.true_and]
    · rw [if_pos (by simpa using he), hb 0 0, Option.bind_some, show ((k0 :: ks)[i] == k0) = false by simpa using he, Bool.false_and]; rfl
theorem A59 (h : St8 m s F arms most l) {v : Int} {z : Bool} {o : Own} {ks : List Int} (hne : ks ≠ []) (hn : (nodeN v ks).ok) (hz : z = false) (ho : o = .no ∨ ∃ t e, o = .tok t e) (hl : (l.length : Int) < most) (hmo : most ≤ 100000) :
    ∃ m' F', AC cfg 52 [.ptr s 0, .int .i64 v, IA z o ks] m = some (.int .i64 (nodeR l v ks).1, m') ∧ St8 m' s F' arms most (nodeR l v ks).2 ∧ Fr m m' F ∧ Gr m F F' := by
  obtain ⟨k0, ks, rfl⟩ := List.exists_cons_of_ne_nil hne
  subst hz
  have hv : ¬ v < 0 ∧ (k0 :: ks).length ≤ 64 := by
    rcases hn with ⟨_, h2, _⟩ | ⟨h1, _, _, _, h5⟩
    · cases h2
    · exact ⟨by simp only [nodeN] at h1; omega, h5⟩
  rw [T52, len_IA, Option.bind_some]
  have w := W59 (m := m) (.ptr s 0) v false o k0 ks (by omega) (K52_2 (finK cfg.P f52.results.toList)) (k0 :: ks).length 0 (by omega)
  rw [List.drop_zero] at w
  rw [show (AV.int .i64 0) = .int .i64 ((0 : Nat) : Int) from rfl, w, nodeR_cons]
  by_cases ha : ((k0 :: ks).all fun k => k == k0) = true
  · rw [if_pos ha, if_pos ha, K52_2_x0, idx_IA0 (by simp), Option.bind_some, loadA_one, Option.bind_some]
    exact ⟨m, F, rfl, h, Fr.refl _ _, Gr.refl _ _⟩
  · rw [if_neg ha, if_neg ha]
    have hk : stripA (.lst none false o (((nodeN v (k0 :: ks)).kids).map (AV.int .i64))) = kidsA (nodeN v (k0 :: ks)) := by
      unfold kidsA
      rw [if_neg (show ¬ (nodeN v (k0 :: ks)).var < 0 from hv.1)]
      rcases ho with rfl | ⟨t, e, rfl⟩ <;> rfl
    obtain ⟨m', F', e, h1, h2, h3⟩ := put_St h hn (z := false) (o := o) hk hl hmo
    refine ⟨m', F', ?_, h1, h2, h3⟩
    have e : AC cfg 48 [.ptr s 0, .agg [.int .i64 v, IA false o (k0 :: ks), .int .i64 0]] m = _ := e
    rw [e, Option.bind_some, K52_2_ret]
/-! ### try -/
theorem callK_in {f g : Nat} {vs : List AV} {m : Mem} {K : AV → Mem → Option (AV × Mem)} (h1 : ((cfg.lib g).isNone && (cfg.libm g).isNone) = true) (h2 : cfg.inl f g = true) (h3 : cfg.thaw f g = false) (h4 : cfg.frzc f g = false := by rfl) : callK cfg f (AP cfg) (AC cfg) none g vs m K = (AC cfg g vs m).bind fun r => K r.1 r.2 := by
  have h5 : cfg.lib g = none ∧ cfg.libm g = none := by
    rw [Bool.and_eq_true] at h1
    exact ⟨Option.isNone_iff_eq_none.1 h1.1, Option.isNone_iff_eq_none.1 h1.2⟩
  unfold callK
  rw [h5.2, h5.1, h2, h4, h3]
theorem A52 {g : Nat} {caps : List AV} {id : Int} {l' : List ND} (h : St8 m s F arms most l) (h1 : ((cfg.lib g).isNone && (cfg.libm g).isNone) = true) (h2 : cfg.inl 34 g = true) (h3 : cfg.thaw 34 g = false)
    (hc : ∀ m1, Fr m m1 [] → ∃ m' F', AC cfg g caps m1 = some (.int .i64 id, m') ∧ St8 m' s F' arms most l' ∧ Fr m1 m' F ∧ Gr m1 F F') :
    ∃ m' F', AC cfg 34 [.ptr s 0, .fn g caps] m = some (.tup [.int .i64 id, .int .i64 0], m') ∧ St8 m' s F' arms most l' ∧ Fr m m' F ∧ Gr m F F' := by
  have hlt := h.lt
  obtain ⟨p, na, T, h, rfl⟩ := h
  have hs := h.hs
  have hsl := get_lt hs
  have hlen : lenA false na = some (.int .i64 l.length) := by
    cases h.hn with
    | none => rfl
    | some t l ht => rw [lenA_lst, List.length_map]
  obtain ⟨m2, F2, e2, k1, k2, k3⟩ := hc (List.set (((m ++ [some (Ent.obj true [.ptr s 0])]) ++ [some (Ent.obj true [.int .i64 0])]) ++ [some (Ent.obj true [.int .i64 0])] ++ [some (Ent.obj true [.int .i64 0])]) (m.length + 1 + 1 + 1) (some (Ent.obj true [.int .i64 l.length]))) (((((Fr.app m _ _).snoc _).snoc _).snoc _).set _ (.inr (by omega)))
  have len2 := k2.len
  simp only [List.length_set, List.length_append, List.length_cons, List.length_nil] at len2
  have g1 : Mem.get m2 (m.length + 1) = some (Ent.obj true [.int .i64 0]) := by
    rw [k2.get _ (by simp) (fun hx => by have := hlt _ hx; omega)]; exact (by simp (disch := (first | assumption | omega | (simp only [List.length_append, List.length_set, List.length_cons, List.length_nil]; first | done | omega))) only [resv1, g_lt, g_eq, g_sne, g_seq]; first | done | rfl)
  have g2 : Mem.get m2 (m.length + 2) = some (Ent.obj true [.int .i64 0]) := by
    rw [k2.get _ (by simp) (fun hx => by have := hlt _ hx; omega)]; exact (by simp (disch := (first | assumption | omega | (simp only [List.length_append, List.length_set, List.length_cons, List.length_nil]; first | done | omega))) only [resv1, g_lt, g_eq, g_sne, g_seq]; first | done | rfl)
  have e : AC cfg 34 [.ptr s 0, .fn g caps] m = some (.tup [.int .i64 id, .int .i64 0], (m2.set (m.length + 1) (some (Ent.obj true [.int .i64 id]))).set (m.length + 1 + 1) (some (Ent.obj true [.int .i64 0]))) := by
    rw [T34]
    repeat ((with_reducible (first | apply bs | apply bsy)); (focus (first | (simp (disch := (first | assumption | omega | (simp only [List.length_append, List.length_set, List.length_cons, List.length_nil]; first | done | omega))) only [List.all_cons, List.all_nil, Bool.and_true, Bool.and_self, beq_self_eq_true, resv1, List.length_map, ld_v3, ld_v1, binA_eql, binA_neq, binA_lss, binA_leq, binA_gtr, binA_geq, loadA_one, un_not, ld_ptr, st_ptr, putE1, objE_obj, Option.bind_some, cut1, cut3, cut4, nil_ptr, fa_ptr, g_lt, g_eq, g_sne, g_seq, new_n, box_n, List.getElem?_cons_zero, List.getElem?_cons_succ, ex0, ex1, Sh.size, cells_int, aok_int, cells_bool, aok_bool, cells_str, aok_str, cells_lst, aok_lst, cells_ptr, aok_ptr, cells_arr, aok_arr, cells_fn, aok_fn, cells_mref, aok_mref, cells_nilp, aok_nilp, cells_agg, shOk_n, shOk_s, lenA_lst, List.length_cons, List.length_nil, if_true, putAt, List.take_succ_cons, List.take_zero, List.drop_succ_cons, List.drop_zero, List.cons_append, List.nil_append, List.append_nil, Nat.zero_add, Nat.reduceAdd, Nat.reduceLeDiff, Nat.le_refl, List.drop_nil, List.take_nil, List.length_append, List.length_set, hs, hlen, box_p]; first | done | rfl) | rfl)); try dsimp only)
    rw [List.nil_append, callK_in h1 h2 h3, e2, Option.bind_some]
    dsimp only
    repeat ((with_reducible (first | apply bs | apply bsy)); (focus (first | (simp (disch := (first | assumption | omega | (simp only [List.length_append, List.length_set, List.length_cons, List.length_nil]; first | done | omega))) only [List.all_cons, List.all_nil, Bool.and_true, Bool.and_self, beq_self_eq_true, resv1, List.length_map, ld_v3, ld_v1, binA_eql, binA_neq, binA_lss, binA_leq, binA_gtr, binA_geq, loadA_one, un_not, ld_ptr, st_ptr, putE1, objE_obj, Option.bind_some, cut1, cut3, cut4, nil_ptr, fa_ptr, g_lt, g_eq, g_sne, g_seq, new_n, box_n, List.getElem?_cons_zero, List.getElem?_cons_succ, ex0, ex1, Sh.size, cells_int, aok_int, cells_bool, aok_bool, cells_str, aok_str, cells_lst, aok_lst, cells_ptr, aok_ptr, cells_arr, aok_arr, cells_fn, aok_fn, cells_mref, aok_mref, cells_nilp, aok_nilp, cells_agg, shOk_n, shOk_s, lenA_lst, List.length_cons, List.length_nil, if_true, putAt, List.take_succ_cons, List.take_zero, List.drop_succ_cons, List.drop_zero, List.cons_append, List.nil_append, List.append_nil, Nat.zero_add, Nat.reduceAdd, Nat.reduceLeDiff, Nat.le_refl, List.drop_nil, List.take_nil, List.length_append, List.length_set, g1, g2]; first | done | rfl) | rfl)); try dsimp only)
  refine ⟨_, F2, e, ?_, ?_, ?_⟩
  · refine k1.move fun x hx => ?_
    have hx2 : x ≠ m.length + 1 ∧ x ≠ m.length + 1 + 1 := by
      rcases k3 x hx with h | h
      · have := hlt x h; omega
      · simp only [List.length_set, List.length_append, List.length_cons, List.length_nil] at h; omega
    rw [g_sne hx2.2, g_sne hx2.1]
  · have f1 : Fr m m2 (s :: p :: T) := Fr.trans (((((Fr.app m _ _).snoc _).snoc _).snoc _).set _ (.inr (by omega))) k2 fun x hx => .inl hx
    exact (f1.set _ (.inr (by omega))).set _ (.inr (by omega))
  · intro x hx
    rcases k3 x hx with h | h
    · exact .inl h
    · simp only [List.length_set, List.length_append, List.length_cons, List.length_nil] at h
      exact .inr (by omega)
end
end Go.Ab

/- The store's methods: Leaf, Make, Node, Count, New, by value. -/
set_option linter.unusedVariables false
set_option linter.unusedSimpArgs false
set_option linter.unusedSectionVars false
set_option maxRecDepth 100000
namespace Go.Ab
open Go.Proofs Go.Proofs.Tryd

section
variable {m : Mem} {s : Nat} {F : List Nat} {arms : AV} {most : Int} {l : List ND}
theorem not_mem_nil {F : List Nat} : ∀ x ∈ F, x ∉ ([] : List Nat) := fun _ _ h => by cases h
theorem St8.app (h : St8 m s F arms most l) {m' : Mem} (f : Fr m m' []) : St8 m' s F arms most l := h.fr f not_mem_nil
/-! ### Leaf -/
def leafR (l : List ND) (x : Int) : (Int × Int) × List ND := if 0 ≤ x ∧ x ≤ 2147483647 then ((((l.idxOf (leafN x) : Nat) : Int), 0), ins l (leafN x)) else ((0, 1), l)
theorem A53 {b1 b2 : Nat} {x : Int} (h : St8 m s F arms most l) (h1 : m.get b1 = some (Ent.obj true [.ptr s 0])) (h2 : m.get b2 = some (Ent.obj true [.int .i64 x])) (hx : 0 ≤ x ∧ x ≤ 2147483647) (hl : (l.length : Int) < most) (hmo : most ≤ 100000) :
    ∃ m' F', AC cfg 35 [.ptr b1 0, .ptr b2 0] m = some (.int .i64 (l.idxOf (leafN x) : Nat), m') ∧ St8 m' s F' arms most (ins l (leafN x)) ∧ Fr m m' F ∧ Gr m F F' := by
  obtain ⟨m', F', e, k⟩ := A54 h hx hl hmo
  refine ⟨m', F', ?_, k⟩
  rw [T35]
  repeat ((with_reducible (first | apply bs | apply bsy)); (focus (first | (simp (disch := (first | assumption | omega | (simp only [List.length_append, List.length_set, List.length_cons, List.length_nil]; first | done | omega))) only [List.all_cons, List.all_nil, Bool.and_true, Bool.and_self, beq_self_eq_true, resv1, List.length_map, ld_v3, ld_v1, binA_eql, binA_neq, binA_lss, binA_leq, binA_gtr, binA_geq, loadA_one, un_not, ld_ptr, st_ptr, putE1, objE_obj, Option.bind_some, cut1, cut3, cut4, nil_ptr, fa_ptr, g_lt, g_eq, g_sne, g_seq, new_n, box_n, List.getElem?_cons_zero, List.getElem?_cons_succ, ex0, ex1, Sh.size, cells_int, aok_int, cells_bool, aok_bool, cells_str, aok_str, cells_lst, aok_lst, cells_ptr, aok_ptr, cells_arr, aok_arr, cells_fn, aok_fn, cells_mref, aok_mref, cells_nilp, aok_nilp, cells_agg, shOk_n, shOk_s, lenA_lst, List.length_cons, List.length_nil, if_true, putAt, List.take_succ_cons, List.take_zero, List.drop_succ_cons, List.drop_zero, List.cons_append, List.nil_append, List.append_nil, Nat.zero_add, Nat.reduceAdd, Nat.reduceLeDiff, Nat.le_refl, List.drop_nil, List.take_nil, List.length_append, List.length_set, h1, h2, e]; first | done | rfl) | rfl)); try dsimp only)
theorem A15 (h : St8 m s F arms most l) (x : Int) (hl : (l.length : Int) < most) (hmo : most ≤ 100000) :
    ∃ m' F', AC cfg 18 [.ptr s 0, .int .i64 x] m = some (.tup [.int .i64 (leafR l x).1.1, .int .i64 (leafR l x).1.2], m') ∧ St8 m' s F' arms most (leafR l x).2 ∧ Fr m m' F ∧ Gr m F F' := by
  have f2 : Fr m ((m ++ [some (Ent.obj true [.ptr s 0])]) ++ [some (Ent.obj true [.int .i64 x])]) [] := (Fr.app m _ _).snoc _
  have h2 := h.app f2
  have e50 := A50 h2 (by omega)
  have hlt := h.lt
  by_cases hx : 0 ≤ x ∧ x ≤ 2147483647
  · have hd : decide (0 ≤ x ∧ x ≤ 2147483647) = true := decide_eq_true hx
    obtain ⟨m', F', e52, k1, k2, k3⟩ := A52 (g := 35) (caps := [.ptr m.length 0, .ptr (m.length + 1) 0]) (id := (l.idxOf (leafN x) : Nat)) h2 rfl rfl rfl
      (fun m1 fr => A53 (h2.app fr) (by rw [fr.get _ (by simp) (by simp)]; exact (by simp (disch := (first | assumption | omega | (simp only [List.length_append, List.length_set, List.length_cons, List.length_nil]; first | done | omega))) only [resv1, g_lt, g_eq, g_sne, g_seq]; first | done | rfl)) (by rw [fr.get _ (by simp) (by simp)]; exact (by simp (disch := (first | assumption | omega | (simp only [List.length_append, List.length_set, List.length_cons, List.length_nil]; first | done | omega))) only [resv1, g_lt, g_eq, g_sne, g_seq]; first | done | rfl)) hx hl hmo)
    refine ⟨m', F', ?_, by rw [leafR, if_pos hx]; exact k1, Fr.trans (f2.mono (by simp)) k2 fun _ h => .inl h, Gr.trans f2.len (Gr.refl m F) k3⟩
    rw [T18, leafR, if_pos hx]
    repeat ((with_reducible (first | apply bs | apply bsy)); (focus (first | (simp (disch := (first | assumption | omega | (simp only [List.length_append, List.length_set, List.length_cons, List.length_nil]; first | done | omega))) only [List.all_cons, List.all_nil, Bool.and_true, Bool.and_self, beq_self_eq_true, resv1, List.length_map, ld_v3, ld_v1, binA_eql, binA_neq, binA_lss, binA_leq, binA_gtr, binA_geq, loadA_one, un_not, ld_ptr, st_ptr, putE1, objE_obj, Option.bind_some, cut1, cut3, cut4, nil_ptr, fa_ptr, g_lt, g_eq, g_sne, g_seq, new_n, box_n, List.getElem?_cons_zero, List.getElem?_cons_succ, ex0, ex1, Sh.size, cells_int, aok_int, cells_bool, aok_bool, cells_str, aok_str, cells_lst, aok_lst, cells_ptr, aok_ptr, cells_arr, aok_arr, cells_fn, aok_fn, cells_mref, aok_mref, cells_nilp, aok_nilp, cells_agg, shOk_n, shOk_s, lenA_lst, List.length_cons, List.length_nil, if_true, putAt, List.take_succ_cons, List.take_zero, List.drop_succ_cons, List.drop_zero, List.cons_append, List.nil_append, List.append_nil, Nat.zero_add, Nat.reduceAdd, Nat.reduceLeDiff, Nat.le_refl, List.drop_nil, List.take_nil, List.length_append, List.length_set, box_p, box_i, e50]; first | done | rfl) | rfl)); try dsimp only)
    rw [ifA_f]
    repeat ((with_reducible (first | apply bs | apply bsy)); (focus (first | (simp (disch := (first | assumption | omega | (simp only [List.length_append, List.length_set, List.length_cons, List.length_nil]; first | done | omega))) only [List.all_cons, List.all_nil, Bool.and_true, Bool.and_self, beq_self_eq_true, resv1, List.length_map, ld_v3, ld_v1, binA_eql, binA_neq, binA_lss, binA_leq, binA_gtr, binA_geq, loadA_one, un_not, ld_ptr, st_ptr, putE1, objE_obj, Option.bind_some, cut1, cut3, cut4, nil_ptr, fa_ptr, g_lt, g_eq, g_sne, g_seq, new_n, box_n, List.getElem?_cons_zero, List.getElem?_cons_succ, ex0, ex1, Sh.size, cells_int, aok_int, cells_bool, aok_bool, cells_str, aok_str, cells_lst, aok_lst, cells_ptr, aok_ptr, cells_arr, aok_arr, cells_fn, aok_fn, cells_mref, aok_mref, cells_nilp, aok_nilp, cells_agg, shOk_n, shOk_s, lenA_lst, List.length_cons, List.length_nil, if_true, putAt, List.take_succ_cons, List.take_zero, List.drop_succ_cons, List.drop_zero, List.cons_append, List.nil_append, List.append_nil, Nat.zero_add, Nat.reduceAdd, Nat.reduceLeDiff, Nat.le_refl, List.drop_nil, List.take_nil, List.length_append, List.length_set, box_p, box_i, pc51, hd]; first | done | rfl) | rfl)); try dsimp only)
    rw [Bool.not_true, ifA_f]
    repeat ((with_reducible (first | apply bs | apply bsy)); (focus (first | (simp (disch := (first | assumption | omega | (simp only [List.length_append, List.length_set, List.length_cons, List.length_nil]; first | done | omega))) only [List.all_cons, List.all_nil, Bool.and_true, Bool.and_self, beq_self_eq_true, resv1, List.length_map, ld_v3, ld_v1, binA_eql, binA_neq, binA_lss, binA_leq, binA_gtr, binA_geq, loadA_one, un_not, ld_ptr, st_ptr, putE1, objE_obj, Option.bind_some, cut1, cut3, cut4, nil_ptr, fa_ptr, g_lt, g_eq, g_sne, g_seq, new_n, box_n, List.getElem?_cons_zero, List.getElem?_cons_succ, ex0, ex1, Sh.size, cells_int, aok_int, cells_bool, aok_bool, cells_str, aok_str, cells_lst, aok_lst, cells_ptr, aok_ptr, cells_arr, aok_arr, cells_fn, aok_fn, cells_mref, aok_mref, cells_nilp, aok_nilp, cells_agg, shOk_n, shOk_s, lenA_lst, List.length_cons, List.length_nil, if_true, putAt, List.take_succ_cons, List.take_zero, List.drop_succ_cons, List.drop_zero, List.cons_append, List.nil_append, List.append_nil, Nat.zero_add, Nat.reduceAdd, Nat.reduceLeDiff, Nat.le_refl, List.drop_nil, List.take_nil, List.length_append, List.length_set, e52]; first | done | rfl) | rfl)); try dsimp only)
  · have hd : decide (0 ≤ x ∧ x ≤ 2147483647) = false := decide_eq_false hx
    refine ⟨_, F, ?_, by rw [leafR, if_neg hx]; exact h2, f2.mono (by simp), Gr.refl _ _⟩
    rw [T18, leafR, if_neg hx]
    repeat ((with_reducible (first | apply bs | apply bsy)); (focus (first | (simp (disch := (first | assumption | omega | (simp only [List.length_append, List.length_set, List.length_cons, List.length_nil]; first | done | omega))) only [List.all_cons, List.all_nil, Bool.and_true, Bool.and_self, beq_self_eq_true, resv1, List.length_map, ld_v3, ld_v1, binA_eql, binA_neq, binA_lss, binA_leq, binA_gtr, binA_geq, loadA_one, un_not, ld_ptr, st_ptr, putE1, objE_obj, Option.bind_some, cut1, cut3, cut4, nil_ptr, fa_ptr, g_lt, g_eq, g_sne, g_seq, new_n, box_n, List.getElem?_cons_zero, List.getElem?_cons_succ, ex0, ex1, Sh.size, cells_int, aok_int, cells_bool, aok_bool, cells_str, aok_str, cells_lst, aok_lst, cells_ptr, aok_ptr, cells_arr, aok_arr, cells_fn, aok_fn, cells_mref, aok_mref, cells_nilp, aok_nilp, cells_agg, shOk_n, shOk_s, lenA_lst, List.length_cons, List.length_nil, if_true, putAt, List.take_succ_cons, List.take_zero, List.drop_succ_cons, List.drop_zero, List.cons_append, List.nil_append, List.append_nil, Nat.zero_add, Nat.reduceAdd, Nat.reduceLeDiff, Nat.le_refl, List.drop_nil, List.take_nil, List.length_append, List.length_set, box_p, box_i, e50]; first | done | rfl) | rfl)); try dsimp only)
    rw [ifA_f]
    repeat ((with_reducible (first | apply bs | apply bsy)); (focus (first | (simp (disch := (first | assumption | omega | (simp only [List.length_append, List.length_set, List.length_cons, List.length_nil]; first | done | omega))) only [List.all_cons, List.all_nil, Bool.and_true, Bool.and_self, beq_self_eq_true, resv1, List.length_map, ld_v3, ld_v1, binA_eql, binA_neq, binA_lss, binA_leq, binA_gtr, binA_geq, loadA_one, un_not, ld_ptr, st_ptr, putE1, objE_obj, Option.bind_some, cut1, cut3, cut4, nil_ptr, fa_ptr, g_lt, g_eq, g_sne, g_seq, new_n, box_n, List.getElem?_cons_zero, List.getElem?_cons_succ, ex0, ex1, Sh.size, cells_int, aok_int, cells_bool, aok_bool, cells_str, aok_str, cells_lst, aok_lst, cells_ptr, aok_ptr, cells_arr, aok_arr, cells_fn, aok_fn, cells_mref, aok_mref, cells_nilp, aok_nilp, cells_agg, shOk_n, shOk_s, lenA_lst, List.length_cons, List.length_nil, if_true, putAt, List.take_succ_cons, List.take_zero, List.drop_succ_cons, List.drop_zero, List.cons_append, List.nil_append, List.append_nil, Nat.zero_add, Nat.reduceAdd, Nat.reduceLeDiff, Nat.le_refl, List.drop_nil, List.take_nil, List.length_append, List.length_set, box_p, box_i, pc51, hd]; first | done | rfl) | rfl)); try dsimp only)
    rw [Bool.not_false, ifA_t]
/-! ### Make -/
/-- May these be the kids of a node of variable v? -/
def kidOk (a : Nat) (l : List ND) (v k : Int) : Bool := decide (0 ≤ k ∧ k < l.length) && decide (v < abv a (l.getD k.toNat ⟨0, [], 0⟩))
def makeR (ar : List Int) (l : List ND) (v : Int) (ks : List Int) : (Int × Int) × List ND :=
  if 0 ≤ v ∧ v < ar.length ∧ (ks.length : Int) = ar.getD v.toNat 0 ∧ ks.all (kidOk ar.length l v) = true then (((nodeR l v ks).1, 0), (nodeR l v ks).2) else ((0, 1), l)
theorem A55 {z : Bool} {o : Own} {ar : List Int} {b1 b2 : Nat} {k v : Int} (h : St8 m s F (IA z o ar) most l) (h1 : m.get b1 = some (Ent.obj true [.ptr s 0])) (h2 : m.get b2 = some (Ent.obj true [.int .i64 v])) :
    ∃ m', AC cfg 49 [.int .i64 k, .ptr b1 0, .ptr b2 0] m = some (.bool (!kidOk ar.length l v k), m') ∧ Fr m m' [] := by
  have e56 := A56 h k
  have hl1 := get_lt h1
  have hl2 := get_lt h2
  by_cases hk : 0 ≤ k ∧ k < l.length
  · have hd : decide (0 ≤ k ∧ k < l.length) = true := decide_eq_true hk
    obtain ⟨i, rfl⟩ := Int.eq_ofNat_of_zero_le hk.1
    have hi : i < l.length := by omega
    obtain ⟨m', e57, f⟩ := A57 h hi
    refine ⟨m', ?_, f⟩
    have h2' : m'.get b2 = some (Ent.obj true [.int .i64 v]) := (f.get _ hl2 (by simp)).trans h2
    rw [T49]
    repeat ((with_reducible (first | apply bs | apply bsy)); (focus (first | (simp (disch := (first | assumption | omega | (simp only [List.length_append, List.length_set, List.length_cons, List.length_nil]; first | done | omega))) only [List.all_cons, List.all_nil, Bool.and_true, Bool.and_self, beq_self_eq_true, resv1, List.length_map, ld_v3, ld_v1, binA_eql, binA_neq, binA_lss, binA_leq, binA_gtr, binA_geq, loadA_one, un_not, ld_ptr, st_ptr, putE1, objE_obj, Option.bind_some, cut1, cut3, cut4, nil_ptr, fa_ptr, g_lt, g_eq, g_sne, g_seq, new_n, box_n, List.getElem?_cons_zero, List.getElem?_cons_succ, ex0, ex1, Sh.size, cells_int, aok_int, cells_bool, aok_bool, cells_str, aok_str, cells_lst, aok_lst, cells_ptr, aok_ptr, cells_arr, aok_arr, cells_fn, aok_fn, cells_mref, aok_mref, cells_nilp, aok_nilp, cells_agg, shOk_n, shOk_s, lenA_lst, List.length_cons, List.length_nil, if_true, putAt, List.take_succ_cons, List.take_zero, List.drop_succ_cons, List.drop_zero, List.cons_append, List.nil_append, List.append_nil, Nat.zero_add, Nat.reduceAdd, Nat.reduceLeDiff, Nat.le_refl, List.drop_nil, List.take_nil, List.length_append, List.length_set, h1, e56]; first | done | rfl) | rfl)); try dsimp only)
    rw [hd, Bool.not_true, ifA_f]
    repeat ((with_reducible (first | apply bs | apply bsy)); (focus (first | (simp (disch := (first | assumption | omega | (simp only [List.length_append, List.length_set, List.length_cons, List.length_nil]; first | done | omega))) only [List.all_cons, List.all_nil, Bool.and_true, Bool.and_self, beq_self_eq_true, resv1, List.length_map, ld_v3, ld_v1, binA_eql, binA_neq, binA_lss, binA_leq, binA_gtr, binA_geq, loadA_one, un_not, ld_ptr, st_ptr, putE1, objE_obj, Option.bind_some, cut1, cut3, cut4, nil_ptr, fa_ptr, g_lt, g_eq, g_sne, g_seq, new_n, box_n, List.getElem?_cons_zero, List.getElem?_cons_succ, ex0, ex1, Sh.size, cells_int, aok_int, cells_bool, aok_bool, cells_str, aok_str, cells_lst, aok_lst, cells_ptr, aok_ptr, cells_arr, aok_arr, cells_fn, aok_fn, cells_mref, aok_mref, cells_nilp, aok_nilp, cells_agg, shOk_n, shOk_s, lenA_lst, List.length_cons, List.length_nil, if_true, putAt, List.take_succ_cons, List.take_zero, List.drop_succ_cons, List.drop_zero, List.cons_append, List.nil_append, List.append_nil, Nat.zero_add, Nat.reduceAdd, Nat.reduceLeDiff, Nat.le_refl, List.drop_nil, List.take_nil, List.length_append, List.length_set, h1, h2, e57]; first | done | rfl) | rfl)); try dsimp only)
    rw [ifP_pos (by simp only [ld_ptr, h2', objE_obj, Option.bind_some]; rfl)]
    repeat ((with_reducible (first | apply bs | apply bsy)); (focus (first | (simp (disch := (first | assumption | omega | (simp only [List.length_append, List.length_set, List.length_cons, List.length_nil]; first | done | omega))) only [List.all_cons, List.all_nil, Bool.and_true, Bool.and_self, beq_self_eq_true, resv1, List.length_map, ld_v3, ld_v1, binA_eql, binA_neq, binA_lss, binA_leq, binA_gtr, binA_geq, loadA_one, un_not, ld_ptr, st_ptr, putE1, objE_obj, Option.bind_some, cut1, cut3, cut4, nil_ptr, fa_ptr, g_lt, g_eq, g_sne, g_seq, new_n, box_n, List.getElem?_cons_zero, List.getElem?_cons_succ, ex0, ex1, Sh.size, cells_int, aok_int, cells_bool, aok_bool, cells_str, aok_str, cells_lst, aok_lst, cells_ptr, aok_ptr, cells_arr, aok_arr, cells_fn, aok_fn, cells_mref, aok_mref, cells_nilp, aok_nilp, cells_agg, shOk_n, shOk_s, lenA_lst, List.length_cons, List.length_nil, if_true, putAt, List.take_succ_cons, List.take_zero, List.drop_succ_cons, List.drop_zero, List.cons_append, List.nil_append, List.append_nil, Nat.zero_add, Nat.reduceAdd, Nat.reduceLeDiff, Nat.le_refl, List.drop_nil, List.take_nil, List.length_append, List.length_set]; first | done | rfl) | rfl)); try dsimp only)
    rw [kidOk, hd, Bool.true_and, Int.toNat_natCast, List.getD_eq_getElem?_getD, List.getElem?_eq_getElem hi, Option.getD_some]
    congr 3
    rw [← decide_not]
    exact decide_eq_decide.2 (by omega)
  · have hd : decide (0 ≤ k ∧ k < l.length) = false := decide_eq_false hk
    refine ⟨m, ?_, Fr.refl _ _⟩
    rw [T49]
    repeat ((with_reducible (first | apply bs | apply bsy)); (focus (first | (simp (disch := (first | assumption | omega | (simp only [List.length_append, List.length_set, List.length_cons, List.length_nil]; first | done | omega))) only [List.all_cons, List.all_nil, Bool.and_true, Bool.and_self, beq_self_eq_true, resv1, List.length_map, ld_v3, ld_v1, binA_eql, binA_neq, binA_lss, binA_leq, binA_gtr, binA_geq, loadA_one, un_not, ld_ptr, st_ptr, putE1, objE_obj, Option.bind_some, cut1, cut3, cut4, nil_ptr, fa_ptr, g_lt, g_eq, g_sne, g_seq, new_n, box_n, List.getElem?_cons_zero, List.getElem?_cons_succ, ex0, ex1, Sh.size, cells_int, aok_int, cells_bool, aok_bool, cells_str, aok_str, cells_lst, aok_lst, cells_ptr, aok_ptr, cells_arr, aok_arr, cells_fn, aok_fn, cells_mref, aok_mref, cells_nilp, aok_nilp, cells_agg, shOk_n, shOk_s, lenA_lst, List.length_cons, List.length_nil, if_true, putAt, List.take_succ_cons, List.take_zero, List.drop_succ_cons, List.drop_zero, List.cons_append, List.nil_append, List.append_nil, Nat.zero_add, Nat.reduceAdd, Nat.reduceLeDiff, Nat.le_refl, List.drop_nil, List.take_nil, List.length_append, List.length_set, h1, e56]; first | done | rfl) | rfl)); try dsimp only)
    rw [hd, Bool.not_false, ifA_t, ifP_pos rfl, kidOk, hd, Bool.false_and, Bool.not_false]
/-- Does a function find one in a row? The function leaves memory as it is. -/
theorem W71 {z : Bool} {o : Own} {ks : List Int} {g : Nat} {caps : List AV} {p : Int → Bool} (hlen : ks.length ≤ 100000) (h1 : ((cfg.lib g).isNone && (cfg.libm g).isNone) = true) (h2 : cfg.inl 45 g = true) (h3 : cfg.thaw 45 g = false) (m0 : Mem)
    (hc : ∀ m1 k, Fr m0 m1 [] → ∃ m', AC cfg g (.int .i64 k :: caps) m1 = some (.bool (p k), m') ∧ Fr m1 m' []) : ∀ (j i : Nat) (m1 : Mem), i + j = ks.length → Fr m0 m1 [] →
    ∃ m' v, L45_2 (IA z o ks) (.fn g caps) (.int .i64 ks.length) (.int .i64 i) m1 (K45_2 (finK cfg.P f45.results.toList)) = some (.int .i64 v, m') ∧ decide (v ≥ 0) = (ks.drop i).any p ∧ Fr m0 m' []
  | 0, i, m1, h, f => by
    refine ⟨m1, -1, ?_, ?_, f⟩
    · rw [L45_2_eq, binA_lss, Option.bind_some, ifA_dec, if_neg (by omega), K45_2_x0]
    · rw [List.drop_eq_nil_of_le (by omega)]; rfl
  | j + 1, i, m1, h, f => by
    have hi : i < ks.length := by omega
    obtain ⟨m2, e, f2⟩ := hc m1 ks[i] f
    have f3 : Fr m0 m2 [] := Fr.trans f f2 fun x hx => by cases hx
    have e0 : L45_2 (IA z o ks) (.fn g caps) (.int .i64 ks.length) (.int .i64 i) m1 (K45_2 (finK cfg.P f45.results.toList)) =
        ifA (.bool (p ks[i])) (some (.int .i64 i, m2)) (L45_2 (IA z o ks) (.fn g caps) (.int .i64 ks.length) (.int .i64 (i + 1 : Nat)) m2 (K45_2 (finK cfg.P f45.results.toList))) := by
      rw [L45_2_eq, binA_lss, Option.bind_some, ifA_dec, if_pos (by omega), idx_IA hi, Option.bind_some, loadA_one, Option.bind_some, show fnOf (.fn g caps) = some (g, caps) from rfl, Option.bind_some, callK_in h1 h2 h3, List.singleton_append, e, Option.bind_some, K45_2_ret, i_add1 (by omega), Option.bind_some]
    rw [e0, List.drop_eq_getElem_cons hi, List.any_cons]
    cases hp : p ks[i] with
    | true =>
      rw [ifA_t]
      exact ⟨m2, i, rfl, by simp, f3⟩
    | false =>
      rw [ifA_f]
      obtain ⟨m', v, e1, e2, e3⟩ := W71 hlen h1 h2 h3 m0 hc j (i + 1) m2 (by omega) f3
      exact ⟨m', v, e1, by rw [e2, Bool.false_or], e3⟩
theorem A47 {z : Bool} {o : Own} {ks : List Int} {g : Nat} {caps : List AV} {p : Int → Bool} (hlen : ks.length ≤ 100000) (h1 : ((cfg.lib g).isNone && (cfg.libm g).isNone) = true) (h2 : cfg.inl 45 g = true) (h3 : cfg.thaw 45 g = false)
    (hc : ∀ m1 k, Fr m m1 [] → ∃ m', AC cfg g (.int .i64 k :: caps) m1 = some (.bool (p k), m') ∧ Fr m1 m' []) : ∃ m', AC cfg 30 [IA z o ks, .fn g caps] m = some (.bool (ks.any p), m') ∧ Fr m m' [] := by
  obtain ⟨m', v, e1, e2, e3⟩ := W71 (z := z) (o := o) hlen h1 h2 h3 m hc ks.length 0 m (by omega) (Fr.refl _ _)
  refine ⟨m', ?_, e3⟩
  rw [T30, T45, len_IA, Option.bind_some, show (AV.int .i64 0) = .int .i64 ((0 : Nat) : Int) from rfl, e1, Option.bind_some, show ((0 : Nat) : Int) = 0 from rfl]
  rw [binA_geq, Option.bind_some, e2, List.drop_zero]
/-! ### Make -/
theorem A58 {z : Bool} {o : Own} {ar : List Int} {b1 b2 b3 : Nat} {v : Int} {kz : Bool} {ko : Own} {ks : List Int} (h : St8 m s F (IA z o ar) most l) (h1 : m.get b1 = some (Ent.obj true [.ptr s 0])) (h2 : m.get b2 = some (Ent.obj true [.int .i64 v])) (h3 : m.get b3 = some (Ent.obj true [IA kz ko ks]))
    (hne : ks ≠ []) (hz : kz = false) (hn : (nodeN v ks).ok) (hl : (l.length : Int) < most) (hmo : most ≤ 100000) :
    ∃ m' F', AC cfg 51 [.ptr b1 0, .ptr b2 0, .ptr b3 0] m = some (.int .i64 (nodeR l v ks).1, m') ∧ St8 m' s F' (IA z o ar) most (nodeR l v ks).2 ∧ Fr m m' F ∧ Gr m F F' := by
  subst hz
  have hkl : ks.length ≤ 64 := by
    rcases hn with ⟨_, h2, _⟩ | ⟨_, _, _, _, h5⟩
    · exact absurd h2 hne
    · exact h5
  have hcl : clA false ks = IA false .no ks := by unfold clA; rw [if_neg (by simp), if_neg hne]
  have c49 := fun m => pc49 false ko ks (by omega) m
  obtain ⟨m', F', e, k⟩ := A59 h hne hn (z := false) rfl (.inl rfl) hl hmo
  refine ⟨m', F', ?_, k⟩
  rw [T51]
  repeat ((with_reducible (first | apply bs | apply bsy)); (focus (first | (simp (disch := (first | assumption | omega | (simp only [List.length_append, List.length_set, List.length_cons, List.length_nil]; first | done | omega))) only [List.all_cons, List.all_nil, Bool.and_true, Bool.and_self, beq_self_eq_true, resv1, List.length_map, ld_v3, ld_v1, binA_eql, binA_neq, binA_lss, binA_leq, binA_gtr, binA_geq, loadA_one, un_not, ld_ptr, st_ptr, putE1, objE_obj, Option.bind_some, cut1, cut3, cut4, nil_ptr, fa_ptr, g_lt, g_eq, g_sne, g_seq, new_n, box_n, List.getElem?_cons_zero, List.getElem?_cons_succ, ex0, ex1, Sh.size, cells_int, aok_int, cells_bool, aok_bool, cells_str, aok_str, cells_lst, aok_lst, cells_ptr, aok_ptr, cells_arr, aok_arr, cells_fn, aok_fn, cells_mref, aok_mref, cells_nilp, aok_nilp, cells_agg, shOk_n, shOk_s, lenA_lst, List.length_cons, List.length_nil, if_true, putAt, List.take_succ_cons, List.take_zero, List.drop_succ_cons, List.drop_zero, List.cons_append, List.nil_append, List.append_nil, Nat.zero_add, Nat.reduceAdd, Nat.reduceLeDiff, Nat.le_refl, List.drop_nil, List.take_nil, List.length_append, List.length_set, h1, h2, h3, c49, hcl]; first | done | rfl) | rfl)); try dsimp only)
  rw [ifP_pos (by simp only [ld_ptr, h1, objE_obj, Option.bind_some]; rfl), ifP_pos (by simp only [ld_ptr, h2, objE_obj, Option.bind_some]; rfl)]
  repeat ((with_reducible (first | apply bs | apply bsy)); (focus (first | (simp (disch := (first | assumption | omega | (simp only [List.length_append, List.length_set, List.length_cons, List.length_nil]; first | done | omega))) only [List.all_cons, List.all_nil, Bool.and_true, Bool.and_self, beq_self_eq_true, resv1, List.length_map, ld_v3, ld_v1, binA_eql, binA_neq, binA_lss, binA_leq, binA_gtr, binA_geq, loadA_one, un_not, ld_ptr, st_ptr, putE1, objE_obj, Option.bind_some, cut1, cut3, cut4, nil_ptr, fa_ptr, g_lt, g_eq, g_sne, g_seq, new_n, box_n, List.getElem?_cons_zero, List.getElem?_cons_succ, ex0, ex1, Sh.size, cells_int, aok_int, cells_bool, aok_bool, cells_str, aok_str, cells_lst, aok_lst, cells_ptr, aok_ptr, cells_arr, aok_arr, cells_fn, aok_fn, cells_mref, aok_mref, cells_nilp, aok_nilp, cells_agg, shOk_n, shOk_s, lenA_lst, List.length_cons, List.length_nil, if_true, putAt, List.take_succ_cons, List.take_zero, List.drop_succ_cons, List.drop_zero, List.cons_append, List.nil_append, List.append_nil, Nat.zero_add, Nat.reduceAdd, Nat.reduceLeDiff, Nat.le_refl, List.drop_nil, List.take_nil, List.length_append, List.length_set, e]; first | done | rfl) | rfl)); try dsimp only)
theorem any_not (ks : List Int) (p : Int → Bool) : ks.any (fun k => !p k) = !ks.all p := by
  induction ks with
  | nil => rfl
  | cons k ks ih => rw [List.any_cons, List.all_cons, ih, Bool.not_and]
theorem box_l (z : Bool) (o : Own) (es : List AV) (m : Mem) : boxA none none m (.lst none z o es) = some (.ptr m.length 0, m ++ [some (Ent.obj true [.lst none z o es])]) := rfl
theorem A17 {z : Bool} {o : Own} {ar : List Int} {kz : Bool} {ko : Own} {ks : List Int} (h : St8 m s F (IA z o ar) most l) (v : Int) (hz : kz = true → ks = []) (har : ∀ a ∈ ar, 1 ≤ a ∧ a ≤ 64) (harl : ar.length ≤ 16) (hkl : ks.length ≤ 1000) (hl : (l.length : Int) < most) (hmo : most ≤ 100000) :
    ∃ m' F', AC cfg 37 [.ptr s 0, .int .i64 v, IA kz ko ks] m = some (.tup [.int .i64 (makeR ar l v ks).1.1, .int .i64 (makeR ar l v ks).1.2], m') ∧ St8 m' s F' (IA z o ar) most (makeR ar l v ks).2 ∧ Fr m m' F ∧ Gr m F F' := by
  have f3 : Fr m (((m ++ [some (Ent.obj true [.ptr s 0])]) ++ [some (Ent.obj true [.int .i64 v])]) ++ [some (Ent.obj true [IA kz ko ks])]) [] := ((Fr.app m _ _).snoc _).snoc _
  have h3 := h.app f3
  have e50 := A50 h3 (by omega)
  have hs : ∃ na p, Mem.get m s = some (Ent.obj true [IA z o ar, na, .mref p, .int .i64 most]) := by
    obtain ⟨p, na, T, h, rfl⟩ := h
    exact ⟨na, p, h.hs⟩
  obtain ⟨na, p, hs⟩ := hs
  have hsl := get_lt hs
  have bad : ¬ (0 ≤ v ∧ v < ar.length ∧ (ks.length : Int) = ar.getD v.toNat 0 ∧ ks.all (kidOk ar.length l v) = true) → makeR ar l v ks = ((0, 1), l) := fun hb => by rw [makeR, if_neg hb]
  by_cases hv0 : v < 0
  · refine ⟨_, F, ?_, by rw [bad (by omega)]; exact h3, f3.mono (by simp), Gr.refl _ _⟩
    rw [T37, bad (by omega)]
    repeat ((with_reducible (first | apply bs | apply bsy)); (focus (first | (simp (disch := (first | assumption | omega | (simp only [List.length_append, List.length_set, List.length_cons, List.length_nil]; first | done | omega))) only [List.all_cons, List.all_nil, Bool.and_true, Bool.and_self, beq_self_eq_true, resv1, List.length_map, ld_v3, ld_v1, binA_eql, binA_neq, binA_lss, binA_leq, binA_gtr, binA_geq, loadA_one, un_not, ld_ptr, st_ptr, putE1, objE_obj, Option.bind_some, cut1, cut3, cut4, nil_ptr, fa_ptr, g_lt, g_eq, g_sne, g_seq, new_n, box_n, List.getElem?_cons_zero, List.getElem?_cons_succ, ex0, ex1, Sh.size, cells_int, aok_int, cells_bool, aok_bool, cells_str, aok_str, cells_lst, aok_lst, cells_ptr, aok_ptr, cells_arr, aok_arr, cells_fn, aok_fn, cells_mref, aok_mref, cells_nilp, aok_nilp, cells_agg, shOk_n, shOk_s, lenA_lst, List.length_cons, List.length_nil, if_true, putAt, List.take_succ_cons, List.take_zero, List.drop_succ_cons, List.drop_zero, List.cons_append, List.nil_append, List.append_nil, Nat.zero_add, Nat.reduceAdd, Nat.reduceLeDiff, Nat.le_refl, List.drop_nil, List.take_nil, List.length_append, List.length_set, box_p, box_i, box_l, e50]; first | done | rfl) | rfl)); try dsimp only)
    rw [ifA_f]
    repeat ((with_reducible (first | apply bs | apply bsy)); (focus (first | (simp (disch := (first | assumption | omega | (simp only [List.length_append, List.length_set, List.length_cons, List.length_nil]; first | done | omega))) only [List.all_cons, List.all_nil, Bool.and_true, Bool.and_self, beq_self_eq_true, resv1, List.length_map, ld_v3, ld_v1, binA_eql, binA_neq, binA_lss, binA_leq, binA_gtr, binA_geq, loadA_one, un_not, ld_ptr, st_ptr, putE1, objE_obj, Option.bind_some, cut1, cut3, cut4, nil_ptr, fa_ptr, g_lt, g_eq, g_sne, g_seq, new_n, box_n, List.getElem?_cons_zero, List.getElem?_cons_succ, ex0, ex1, Sh.size, cells_int, aok_int, cells_bool, aok_bool, cells_str, aok_str, cells_lst, aok_lst, cells_ptr, aok_ptr, cells_arr, aok_arr, cells_fn, aok_fn, cells_mref, aok_mref, cells_nilp, aok_nilp, cells_agg, shOk_n, shOk_s, lenA_lst, List.length_cons, List.length_nil, if_true, putAt, List.take_succ_cons, List.take_zero, List.drop_succ_cons, List.drop_zero, List.cons_append, List.nil_append, List.append_nil, Nat.zero_add, Nat.reduceAdd, Nat.reduceLeDiff, Nat.le_refl, List.drop_nil, List.take_nil, List.length_append, List.length_set]; first | done | rfl) | rfl)); try dsimp only)
    rw [ifA_dec, if_pos hv0]
  by_cases hv1 : v ≥ ar.length
  · refine ⟨_, F, ?_, by rw [bad (by omega)]; exact h3, f3.mono (by simp), Gr.refl _ _⟩
    rw [T37, bad (by omega)]
    repeat ((with_reducible (first | apply bs | apply bsy)); (focus (first | (simp (disch := (first | assumption | omega | (simp only [List.length_append, List.length_set, List.length_cons, List.length_nil]; first | done | omega))) only [List.all_cons, List.all_nil, Bool.and_true, Bool.and_self, beq_self_eq_true, resv1, List.length_map, ld_v3, ld_v1, binA_eql, binA_neq, binA_lss, binA_leq, binA_gtr, binA_geq, loadA_one, un_not, ld_ptr, st_ptr, putE1, objE_obj, Option.bind_some, cut1, cut3, cut4, nil_ptr, fa_ptr, g_lt, g_eq, g_sne, g_seq, new_n, box_n, List.getElem?_cons_zero, List.getElem?_cons_succ, ex0, ex1, Sh.size, cells_int, aok_int, cells_bool, aok_bool, cells_str, aok_str, cells_lst, aok_lst, cells_ptr, aok_ptr, cells_arr, aok_arr, cells_fn, aok_fn, cells_mref, aok_mref, cells_nilp, aok_nilp, cells_agg, shOk_n, shOk_s, lenA_lst, List.length_cons, List.length_nil, if_true, putAt, List.take_succ_cons, List.take_zero, List.drop_succ_cons, List.drop_zero, List.cons_append, List.nil_append, List.append_nil, Nat.zero_add, Nat.reduceAdd, Nat.reduceLeDiff, Nat.le_refl, List.drop_nil, List.take_nil, List.length_append, List.length_set, box_p, box_i, box_l, e50]; first | done | rfl) | rfl)); try dsimp only)
    rw [ifA_f]
    repeat ((with_reducible (first | apply bs | apply bsy)); (focus (first | (simp (disch := (first | assumption | omega | (simp only [List.length_append, List.length_set, List.length_cons, List.length_nil]; first | done | omega))) only [List.all_cons, List.all_nil, Bool.and_true, Bool.and_self, beq_self_eq_true, resv1, List.length_map, ld_v3, ld_v1, binA_eql, binA_neq, binA_lss, binA_leq, binA_gtr, binA_geq, loadA_one, un_not, ld_ptr, st_ptr, putE1, objE_obj, Option.bind_some, cut1, cut3, cut4, nil_ptr, fa_ptr, g_lt, g_eq, g_sne, g_seq, new_n, box_n, List.getElem?_cons_zero, List.getElem?_cons_succ, ex0, ex1, Sh.size, cells_int, aok_int, cells_bool, aok_bool, cells_str, aok_str, cells_lst, aok_lst, cells_ptr, aok_ptr, cells_arr, aok_arr, cells_fn, aok_fn, cells_mref, aok_mref, cells_nilp, aok_nilp, cells_agg, shOk_n, shOk_s, lenA_lst, List.length_cons, List.length_nil, if_true, putAt, List.take_succ_cons, List.take_zero, List.drop_succ_cons, List.drop_zero, List.cons_append, List.nil_append, List.append_nil, Nat.zero_add, Nat.reduceAdd, Nat.reduceLeDiff, Nat.le_refl, List.drop_nil, List.take_nil, List.length_append, List.length_set]; first | done | rfl) | rfl)); try dsimp only)
    rw [ifA_dec, if_neg hv0]
    repeat ((with_reducible (first | apply bs | apply bsy)); (focus (first | (simp (disch := (first | assumption | omega | (simp only [List.length_append, List.length_set, List.length_cons, List.length_nil]; first | done | omega))) only [List.all_cons, List.all_nil, Bool.and_true, Bool.and_self, beq_self_eq_true, resv1, List.length_map, ld_v3, ld_v1, binA_eql, binA_neq, binA_lss, binA_leq, binA_gtr, binA_geq, loadA_one, un_not, ld_ptr, st_ptr, putE1, objE_obj, Option.bind_some, cut1, cut3, cut4, nil_ptr, fa_ptr, g_lt, g_eq, g_sne, g_seq, new_n, box_n, List.getElem?_cons_zero, List.getElem?_cons_succ, ex0, ex1, Sh.size, cells_int, aok_int, cells_bool, aok_bool, cells_str, aok_str, cells_lst, aok_lst, cells_ptr, aok_ptr, cells_arr, aok_arr, cells_fn, aok_fn, cells_mref, aok_mref, cells_nilp, aok_nilp, cells_agg, shOk_n, shOk_s, lenA_lst, List.length_cons, List.length_nil, if_true, putAt, List.take_succ_cons, List.take_zero, List.drop_succ_cons, List.drop_zero, List.cons_append, List.nil_append, List.append_nil, Nat.zero_add, Nat.reduceAdd, Nat.reduceLeDiff, Nat.le_refl, List.drop_nil, List.take_nil, List.length_append, List.length_set, hs]; first | done | rfl) | rfl)); try dsimp only)
    rw [ifA_dec, if_pos hv1]
  obtain ⟨i, rfl⟩ := Int.eq_ofNat_of_zero_le (by omega : 0 ≤ v)
  have hi : i < ar.length := by omega
  have hix := idx_IA (z := z) (o := o) (k := .i64) hi
  have hai : ar.getD ((i : Int).toNat) 0 = ar[i] := by rw [Int.toNat_natCast, List.getD_eq_getElem?_getD, List.getElem?_eq_getElem hi, Option.getD_some]
  have hab := har ar[i] (List.getElem_mem hi)
  by_cases hk : (ks.length : Int) = ar[i]
  case neg =>
    refine ⟨_, F, ?_, by rw [bad (by rw [hai]; omega)]; exact h3, f3.mono (by simp), Gr.refl _ _⟩
    rw [T37, bad (by rw [hai]; omega)]
    repeat ((with_reducible (first | apply bs | apply bsy)); (focus (first | (simp (disch := (first | assumption | omega | (simp only [List.length_append, List.length_set, List.length_cons, List.length_nil]; first | done | omega))) only [List.all_cons, List.all_nil, Bool.and_true, Bool.and_self, beq_self_eq_true, resv1, List.length_map, ld_v3, ld_v1, binA_eql, binA_neq, binA_lss, binA_leq, binA_gtr, binA_geq, loadA_one, un_not, ld_ptr, st_ptr, putE1, objE_obj, Option.bind_some, cut1, cut3, cut4, nil_ptr, fa_ptr, g_lt, g_eq, g_sne, g_seq, new_n, box_n, List.getElem?_cons_zero, List.getElem?_cons_succ, ex0, ex1, Sh.size, cells_int, aok_int, cells_bool, aok_bool, cells_str, aok_str, cells_lst, aok_lst, cells_ptr, aok_ptr, cells_arr, aok_arr, cells_fn, aok_fn, cells_mref, aok_mref, cells_nilp, aok_nilp, cells_agg, shOk_n, shOk_s, lenA_lst, List.length_cons, List.length_nil, if_true, putAt, List.take_succ_cons, List.take_zero, List.drop_succ_cons, List.drop_zero, List.cons_append, List.nil_append, List.append_nil, Nat.zero_add, Nat.reduceAdd, Nat.reduceLeDiff, Nat.le_refl, List.drop_nil, List.take_nil, List.length_append, List.length_set, box_p, box_i, box_l, e50]; first | done | rfl) | rfl)); try dsimp only)
    rw [ifA_f]
    repeat ((with_reducible (first | apply bs | apply bsy)); (focus (first | (simp (disch := (first | assumption | omega | (simp only [List.length_append, List.length_set, List.length_cons, List.length_nil]; first | done | omega))) only [List.all_cons, List.all_nil, Bool.and_true, Bool.and_self, beq_self_eq_true, resv1, List.length_map, ld_v3, ld_v1, binA_eql, binA_neq, binA_lss, binA_leq, binA_gtr, binA_geq, loadA_one, un_not, ld_ptr, st_ptr, putE1, objE_obj, Option.bind_some, cut1, cut3, cut4, nil_ptr, fa_ptr, g_lt, g_eq, g_sne, g_seq, new_n, box_n, List.getElem?_cons_zero, List.getElem?_cons_succ, ex0, ex1, Sh.size, cells_int, aok_int, cells_bool, aok_bool, cells_str, aok_str, cells_lst, aok_lst, cells_ptr, aok_ptr, cells_arr, aok_arr, cells_fn, aok_fn, cells_mref, aok_mref, cells_nilp, aok_nilp, cells_agg, shOk_n, shOk_s, lenA_lst, List.length_cons, List.length_nil, if_true, putAt, List.take_succ_cons, List.take_zero, List.drop_succ_cons, List.drop_zero, List.cons_append, List.nil_append, List.append_nil, Nat.zero_add, Nat.reduceAdd, Nat.reduceLeDiff, Nat.le_refl, List.drop_nil, List.take_nil, List.length_append, List.length_set]; first | done | rfl) | rfl)); try dsimp only)
    rw [ifA_dec, if_neg hv0]
    repeat ((with_reducible (first | apply bs | apply bsy)); (focus (first | (simp (disch := (first | assumption | omega | (simp only [List.length_append, List.length_set, List.length_cons, List.length_nil]; first | done | omega))) only [List.all_cons, List.all_nil, Bool.and_true, Bool.and_self, beq_self_eq_true, resv1, List.length_map, ld_v3, ld_v1, binA_eql, binA_neq, binA_lss, binA_leq, binA_gtr, binA_geq, loadA_one, un_not, ld_ptr, st_ptr, putE1, objE_obj, Option.bind_some, cut1, cut3, cut4, nil_ptr, fa_ptr, g_lt, g_eq, g_sne, g_seq, new_n, box_n, List.getElem?_cons_zero, List.getElem?_cons_succ, ex0, ex1, Sh.size, cells_int, aok_int, cells_bool, aok_bool, cells_str, aok_str, cells_lst, aok_lst, cells_ptr, aok_ptr, cells_arr, aok_arr, cells_fn, aok_fn, cells_mref, aok_mref, cells_nilp, aok_nilp, cells_agg, shOk_n, shOk_s, lenA_lst, List.length_cons, List.length_nil, if_true, putAt, List.take_succ_cons, List.take_zero, List.drop_succ_cons, List.drop_zero, List.cons_append, List.nil_append, List.append_nil, Nat.zero_add, Nat.reduceAdd, Nat.reduceLeDiff, Nat.le_refl, List.drop_nil, List.take_nil, List.length_append, List.length_set, hs]; first | done | rfl) | rfl)); try dsimp only)
    rw [ifA_dec, if_neg hv1]
    repeat ((with_reducible (first | apply bs | apply bsy)); (focus (first | (simp (disch := (first | assumption | omega | (simp only [List.length_append, List.length_set, List.length_cons, List.length_nil]; first | done | omega))) only [List.all_cons, List.all_nil, Bool.and_true, Bool.and_self, beq_self_eq_true, resv1, List.length_map, ld_v3, ld_v1, binA_eql, binA_neq, binA_lss, binA_leq, binA_gtr, binA_geq, loadA_one, un_not, ld_ptr, st_ptr, putE1, objE_obj, Option.bind_some, cut1, cut3, cut4, nil_ptr, fa_ptr, g_lt, g_eq, g_sne, g_seq, new_n, box_n, List.getElem?_cons_zero, List.getElem?_cons_succ, ex0, ex1, Sh.size, cells_int, aok_int, cells_bool, aok_bool, cells_str, aok_str, cells_lst, aok_lst, cells_ptr, aok_ptr, cells_arr, aok_arr, cells_fn, aok_fn, cells_mref, aok_mref, cells_nilp, aok_nilp, cells_agg, shOk_n, shOk_s, lenA_lst, List.length_cons, List.length_nil, if_true, putAt, List.take_succ_cons, List.take_zero, List.drop_succ_cons, List.drop_zero, List.cons_append, List.nil_append, List.append_nil, Nat.zero_add, Nat.reduceAdd, Nat.reduceLeDiff, Nat.le_refl, List.drop_nil, List.take_nil, List.length_append, List.length_set, hs, hix]; first | done | rfl) | rfl)); try dsimp only)
    rw [ifA_dec, if_pos hk]
  have hne : ks ≠ [] := fun e => by rw [e] at hk; simp at hk; omega
  have hzf : kz = false := by cases kz with
    | false => rfl
    | true => exact absurd (hz rfl) hne
  obtain ⟨m4, e47, f4⟩ := A47 (m := (((m ++ [some (Ent.obj true [.ptr s 0])]) ++ [some (Ent.obj true [.int .i64 i])]) ++ [some (Ent.obj true [IA kz ko ks])])) (z := kz) (o := ko) (ks := ks) (g := 49) (caps := [.ptr m.length 0, .ptr (m.length + 1) 0]) (p := fun k => !kidOk ar.length l i k) (by omega) rfl rfl rfl
    (fun m1 k fr => A55 (h3.app fr) (by rw [fr.get _ (by simp) (by simp)]; exact (by simp (disch := (first | assumption | omega | (simp only [List.length_append, List.length_set, List.length_cons, List.length_nil]; first | done | omega))) only [resv1, g_lt, g_eq, g_sne, g_seq]; first | done | rfl)) (by rw [fr.get _ (by simp) (by simp)]; exact (by simp (disch := (first | assumption | omega | (simp only [List.length_append, List.length_set, List.length_cons, List.length_nil]; first | done | omega))) only [resv1, g_lt, g_eq, g_sne, g_seq]; first | done | rfl)))
  rw [any_not] at e47
  have h4 := h3.app f4
  have f34 : Fr m m4 [] := Fr.trans f3 f4 fun x hx => by cases hx
  have g1 : m4.get m.length = some (Ent.obj true [.ptr s 0]) := by rw [f4.get _ (by simp) (by simp)]; exact (by simp (disch := (first | assumption | omega | (simp only [List.length_append, List.length_set, List.length_cons, List.length_nil]; first | done | omega))) only [resv1, g_lt, g_eq, g_sne, g_seq]; first | done | rfl)
  have g2 : m4.get (m.length + 1) = some (Ent.obj true [.int .i64 i]) := by rw [f4.get _ (by simp) (by simp)]; exact (by simp (disch := (first | assumption | omega | (simp only [List.length_append, List.length_set, List.length_cons, List.length_nil]; first | done | omega))) only [resv1, g_lt, g_eq, g_sne, g_seq]; first | done | rfl)
  have g3 : m4.get (m.length + 1 + 1) = some (Ent.obj true [IA kz ko ks]) := by rw [f4.get _ (by simp) (by simp)]; exact (by simp (disch := (first | assumption | omega | (simp only [List.length_append, List.length_set, List.length_cons, List.length_nil]; first | done | omega))) only [resv1, g_lt, g_eq, g_sne, g_seq]; first | done | rfl)
  by_cases ha : ks.all (kidOk ar.length l i) = true
  case neg =>
    have ha' : ks.all (kidOk ar.length l i) = false := by simpa using ha
    refine ⟨_, F, ?_, by rw [bad (by rw [ha']; simp)]; exact h4, f34.mono (by simp), Gr.refl _ _⟩
    rw [T37, bad (by rw [ha']; simp)]
    repeat ((with_reducible (first | apply bs | apply bsy)); (focus (first | (simp (disch := (first | assumption | omega | (simp only [List.length_append, List.length_set, List.length_cons, List.length_nil]; first | done | omega))) only [List.all_cons, List.all_nil, Bool.and_true, Bool.and_self, beq_self_eq_true, resv1, List.length_map, ld_v3, ld_v1, binA_eql, binA_neq, binA_lss, binA_leq, binA_gtr, binA_geq, loadA_one, un_not, ld_ptr, st_ptr, putE1, objE_obj, Option.bind_some, cut1, cut3, cut4, nil_ptr, fa_ptr, g_lt, g_eq, g_sne, g_seq, new_n, box_n, List.getElem?_cons_zero, List.getElem?_cons_succ, ex0, ex1, Sh.size, cells_int, aok_int, cells_bool, aok_bool, cells_str, aok_str, cells_lst, aok_lst, cells_ptr, aok_ptr, cells_arr, aok_arr, cells_fn, aok_fn, cells_mref, aok_mref, cells_nilp, aok_nilp, cells_agg, shOk_n, shOk_s, lenA_lst, List.length_cons, List.length_nil, if_true, putAt, List.take_succ_cons, List.take_zero, List.drop_succ_cons, List.drop_zero, List.cons_append, List.nil_append, List.append_nil, Nat.zero_add, Nat.reduceAdd, Nat.reduceLeDiff, Nat.le_refl, List.drop_nil, List.take_nil, List.length_append, List.length_set, box_p, box_i, box_l, e50]; first | done | rfl) | rfl)); try dsimp only)
    rw [ifA_f]
    repeat ((with_reducible (first | apply bs | apply bsy)); (focus (first | (simp (disch := (first | assumption | omega | (simp only [List.length_append, List.length_set, List.length_cons, List.length_nil]; first | done | omega))) only [List.all_cons, List.all_nil, Bool.and_true, Bool.and_self, beq_self_eq_true, resv1, List.length_map, ld_v3, ld_v1, binA_eql, binA_neq, binA_lss, binA_leq, binA_gtr, binA_geq, loadA_one, un_not, ld_ptr, st_ptr, putE1, objE_obj, Option.bind_some, cut1, cut3, cut4, nil_ptr, fa_ptr, g_lt, g_eq, g_sne, g_seq, new_n, box_n, List.getElem?_cons_zero, List.getElem?_cons_succ, ex0, ex1, Sh.size, cells_int, aok_int, cells_bool, aok_bool, cells_str, aok_str, cells_lst, aok_lst, cells_ptr, aok_ptr, cells_arr, aok_arr, cells_fn, aok_fn, cells_mref, aok_mref, cells_nilp, aok_nilp, cells_agg, shOk_n, shOk_s, lenA_lst, List.length_cons, List.length_nil, if_true, putAt, List.take_succ_cons, List.take_zero, List.drop_succ_cons, List.drop_zero, List.cons_append, List.nil_append, List.append_nil, Nat.zero_add, Nat.reduceAdd, Nat.reduceLeDiff, Nat.le_refl, List.drop_nil, List.take_nil, List.length_append, List.length_set]; first | done | rfl) | rfl)); try dsimp only)
    rw [ifA_dec, if_neg hv0]
    repeat ((with_reducible (first | apply bs | apply bsy)); (focus (first | (simp (disch := (first | assumption | omega | (simp only [List.length_append, List.length_set, List.length_cons, List.length_nil]; first | done | omega))) only [List.all_cons, List.all_nil, Bool.and_true, Bool.and_self, beq_self_eq_true, resv1, List.length_map, ld_v3, ld_v1, binA_eql, binA_neq, binA_lss, binA_leq, binA_gtr, binA_geq, loadA_one, un_not, ld_ptr, st_ptr, putE1, objE_obj, Option.bind_some, cut1, cut3, cut4, nil_ptr, fa_ptr, g_lt, g_eq, g_sne, g_seq, new_n, box_n, List.getElem?_cons_zero, List.getElem?_cons_succ, ex0, ex1, Sh.size, cells_int, aok_int, cells_bool, aok_bool, cells_str, aok_str, cells_lst, aok_lst, cells_ptr, aok_ptr, cells_arr, aok_arr, cells_fn, aok_fn, cells_mref, aok_mref, cells_nilp, aok_nilp, cells_agg, shOk_n, shOk_s, lenA_lst, List.length_cons, List.length_nil, if_true, putAt, List.take_succ_cons, List.take_zero, List.drop_succ_cons, List.drop_zero, List.cons_append, List.nil_append, List.append_nil, Nat.zero_add, Nat.reduceAdd, Nat.reduceLeDiff, Nat.le_refl, List.drop_nil, List.take_nil, List.length_append, List.length_set, hs]; first | done | rfl) | rfl)); try dsimp only)
    rw [ifA_dec, if_neg hv1]
    repeat ((with_reducible (first | apply bs | apply bsy)); (focus (first | (simp (disch := (first | assumption | omega | (simp only [List.length_append, List.length_set, List.length_cons, List.length_nil]; first | done | omega))) only [List.all_cons, List.all_nil, Bool.and_true, Bool.and_self, beq_self_eq_true, resv1, List.length_map, ld_v3, ld_v1, binA_eql, binA_neq, binA_lss, binA_leq, binA_gtr, binA_geq, loadA_one, un_not, ld_ptr, st_ptr, putE1, objE_obj, Option.bind_some, cut1, cut3, cut4, nil_ptr, fa_ptr, g_lt, g_eq, g_sne, g_seq, new_n, box_n, List.getElem?_cons_zero, List.getElem?_cons_succ, ex0, ex1, Sh.size, cells_int, aok_int, cells_bool, aok_bool, cells_str, aok_str, cells_lst, aok_lst, cells_ptr, aok_ptr, cells_arr, aok_arr, cells_fn, aok_fn, cells_mref, aok_mref, cells_nilp, aok_nilp, cells_agg, shOk_n, shOk_s, lenA_lst, List.length_cons, List.length_nil, if_true, putAt, List.take_succ_cons, List.take_zero, List.drop_succ_cons, List.drop_zero, List.cons_append, List.nil_append, List.append_nil, Nat.zero_add, Nat.reduceAdd, Nat.reduceLeDiff, Nat.le_refl, List.drop_nil, List.take_nil, List.length_append, List.length_set, hs, hix]; first | done | rfl) | rfl)); try dsimp only)
    rw [ifA_dec, if_neg (by omega)]
    repeat ((with_reducible (first | apply bs | apply bsy)); (focus (first | (simp (disch := (first | assumption | omega | (simp only [List.length_append, List.length_set, List.length_cons, List.length_nil]; first | done | omega))) only [List.all_cons, List.all_nil, Bool.and_true, Bool.and_self, beq_self_eq_true, resv1, List.length_map, ld_v3, ld_v1, binA_eql, binA_neq, binA_lss, binA_leq, binA_gtr, binA_geq, loadA_one, un_not, ld_ptr, st_ptr, putE1, objE_obj, Option.bind_some, cut1, cut3, cut4, nil_ptr, fa_ptr, g_lt, g_eq, g_sne, g_seq, new_n, box_n, List.getElem?_cons_zero, List.getElem?_cons_succ, ex0, ex1, Sh.size, cells_int, aok_int, cells_bool, aok_bool, cells_str, aok_str, cells_lst, aok_lst, cells_ptr, aok_ptr, cells_arr, aok_arr, cells_fn, aok_fn, cells_mref, aok_mref, cells_nilp, aok_nilp, cells_agg, shOk_n, shOk_s, lenA_lst, List.length_cons, List.length_nil, if_true, putAt, List.take_succ_cons, List.take_zero, List.drop_succ_cons, List.drop_zero, List.cons_append, List.nil_append, List.append_nil, Nat.zero_add, Nat.reduceAdd, Nat.reduceLeDiff, Nat.le_refl, List.drop_nil, List.take_nil, List.length_append, List.length_set, e47]; first | done | rfl) | rfl)); try dsimp only)
    rw [ha', Bool.not_false, ifA_t]
  have good : makeR ar l i ks = (((nodeR l i ks).1, 0), (nodeR l i ks).2) := by rw [makeR, if_pos ⟨by omega, by omega, by rw [hai]; exact hk, ha⟩]
  have hn : (nodeN i ks).ok := by
    refine .inr ⟨by simp only [nodeN]; omega, by simp only [nodeN]; omega, rfl, fun k hk' => ?_, by simp only [nodeN]; omega⟩
    have := List.all_eq_true.1 ha k hk'
    unfold kidOk at this
    simp only [Bool.and_eq_true, decide_eq_true_eq] at this
    omega
  obtain ⟨m', F', e52, k1, k2, k3⟩ := A52 (g := 51) (caps := [.ptr m.length 0, .ptr (m.length + 1) 0, .ptr (m.length + 1 + 1) 0]) (id := (nodeR l i ks).1) (l' := (nodeR l i ks).2) h4 rfl rfl rfl
    (fun m1 fr => A58 (h4.app fr) (by rw [fr.get _ (get_lt g1) (by simp)]; exact g1) (by rw [fr.get _ (get_lt g2) (by simp)]; exact g2) (by rw [fr.get _ (get_lt g3) (by simp)]; exact g3) hne hzf hn hl hmo)
  refine ⟨m', F', ?_, by rw [good]; exact k1, Fr.trans (f34.mono (by simp)) k2 fun _ h => .inl h, Gr.trans f34.len (Gr.refl m F) k3⟩
  rw [T37, good]
  repeat ((with_reducible (first | apply bs | apply bsy)); (focus (first | (simp (disch := (first | assumption | omega | (simp only [List.length_append, List.length_set, List.length_cons, List.length_nil]; first | done | omega))) only [List.all_cons, List.all_nil, Bool.and_true, Bool.and_self, beq_self_eq_true, resv1, List.length_map, ld_v3, ld_v1, binA_eql, binA_neq, binA_lss, binA_leq, binA_gtr, binA_geq, loadA_one, un_not, ld_ptr, st_ptr, putE1, objE_obj, Option.bind_some, cut1, cut3, cut4, nil_ptr, fa_ptr, g_lt, g_eq, g_sne, g_seq, new_n, box_n, List.getElem?_cons_zero, List.getElem?_cons_succ, ex0, ex1, Sh.size, cells_int, aok_int, cells_bool, aok_bool, cells_str, aok_str, cells_lst, aok_lst, cells_ptr, aok_ptr, cells_arr, aok_arr, cells_fn, aok_fn, cells_mref, aok_mref, cells_nilp, aok_nilp, cells_agg, shOk_n, shOk_s, lenA_lst, List.length_cons, List.length_nil, if_true, putAt, List.take_succ_cons, List.take_zero, List.drop_succ_cons, List.drop_zero, List.cons_append, List.nil_append, List.append_nil, Nat.zero_add, Nat.reduceAdd, Nat.reduceLeDiff, Nat.le_refl, List.drop_nil, List.take_nil, List.length_append, List.length_set, box_p, box_i, box_l, e50]; first | done | rfl) | rfl)); try dsimp only)
  rw [ifA_f]
  repeat ((with_reducible (first | apply bs | apply bsy)); (focus (first | (simp (disch := (first | assumption | omega | (simp only [List.length_append, List.length_set, List.length_cons, List.length_nil]; first | done | omega))) only [List.all_cons, List.all_nil, Bool.and_true, Bool.and_self, beq_self_eq_true, resv1, List.length_map, ld_v3, ld_v1, binA_eql, binA_neq, binA_lss, binA_leq, binA_gtr, binA_geq, loadA_one, un_not, ld_ptr, st_ptr, putE1, objE_obj, Option.bind_some, cut1, cut3, cut4, nil_ptr, fa_ptr, g_lt, g_eq, g_sne, g_seq, new_n, box_n, List.getElem?_cons_zero, List.getElem?_cons_succ, ex0, ex1, Sh.size, cells_int, aok_int, cells_bool, aok_bool, cells_str, aok_str, cells_lst, aok_lst, cells_ptr, aok_ptr, cells_arr, aok_arr, cells_fn, aok_fn, cells_mref, aok_mref, cells_nilp, aok_nilp, cells_agg, shOk_n, shOk_s, lenA_lst, List.length_cons, List.length_nil, if_true, putAt, List.take_succ_cons, List.take_zero, List.drop_succ_cons, List.drop_zero, List.cons_append, List.nil_append, List.append_nil, Nat.zero_add, Nat.reduceAdd, Nat.reduceLeDiff, Nat.le_refl, List.drop_nil, List.take_nil, List.length_append, List.length_set]; first | done | rfl) | rfl)); try dsimp only)
  rw [ifA_dec, if_neg hv0]
  repeat ((with_reducible (first | apply bs | apply bsy)); (focus (first | (simp (disch := (first | assumption | omega | (simp only [List.length_append, List.length_set, List.length_cons, List.length_nil]; first | done | omega))) only [List.all_cons, List.all_nil, Bool.and_true, Bool.and_self, beq_self_eq_true, resv1, List.length_map, ld_v3, ld_v1, binA_eql, binA_neq, binA_lss, binA_leq, binA_gtr, binA_geq, loadA_one, un_not, ld_ptr, st_ptr, putE1, objE_obj, Option.bind_some, cut1, cut3, cut4, nil_ptr, fa_ptr, g_lt, g_eq, g_sne, g_seq, new_n, box_n, List.getElem?_cons_zero, List.getElem?_cons_succ, ex0, ex1, Sh.size, cells_int, aok_int, cells_bool, aok_bool, cells_str, aok_str, cells_lst, aok_lst, cells_ptr, aok_ptr, cells_arr, aok_arr, cells_fn, aok_fn, cells_mref, aok_mref, cells_nilp, aok_nilp, cells_agg, shOk_n, shOk_s, lenA_lst, List.length_cons, List.length_nil, if_true, putAt, List.take_succ_cons, List.take_zero, List.drop_succ_cons, List.drop_zero, List.cons_append, List.nil_append, List.append_nil, Nat.zero_add, Nat.reduceAdd, Nat.reduceLeDiff, Nat.le_refl, List.drop_nil, List.take_nil, List.length_append, List.length_set, hs]; first | done | rfl) | rfl)); try dsimp only)
  rw [ifA_dec, if_neg hv1]
  repeat ((with_reducible (first | apply bs | apply bsy)); (focus (first | (simp (disch := (first | assumption | omega | (simp only [List.length_append, List.length_set, List.length_cons, List.length_nil]; first | done | omega))) only [List.all_cons, List.all_nil, Bool.and_true, Bool.and_self, beq_self_eq_true, resv1, List.length_map, ld_v3, ld_v1, binA_eql, binA_neq, binA_lss, binA_leq, binA_gtr, binA_geq, loadA_one, un_not, ld_ptr, st_ptr, putE1, objE_obj, Option.bind_some, cut1, cut3, cut4, nil_ptr, fa_ptr, g_lt, g_eq, g_sne, g_seq, new_n, box_n, List.getElem?_cons_zero, List.getElem?_cons_succ, ex0, ex1, Sh.size, cells_int, aok_int, cells_bool, aok_bool, cells_str, aok_str, cells_lst, aok_lst, cells_ptr, aok_ptr, cells_arr, aok_arr, cells_fn, aok_fn, cells_mref, aok_mref, cells_nilp, aok_nilp, cells_agg, shOk_n, shOk_s, lenA_lst, List.length_cons, List.length_nil, if_true, putAt, List.take_succ_cons, List.take_zero, List.drop_succ_cons, List.drop_zero, List.cons_append, List.nil_append, List.append_nil, Nat.zero_add, Nat.reduceAdd, Nat.reduceLeDiff, Nat.le_refl, List.drop_nil, List.take_nil, List.length_append, List.length_set, hs, hix]; first | done | rfl) | rfl)); try dsimp only)
  rw [ifA_dec, if_neg (by omega)]
  repeat ((with_reducible (first | apply bs | apply bsy)); (focus (first | (simp (disch := (first | assumption | omega | (simp only [List.length_append, List.length_set, List.length_cons, List.length_nil]; first | done | omega))) only [List.all_cons, List.all_nil, Bool.and_true, Bool.and_self, beq_self_eq_true, resv1, List.length_map, ld_v3, ld_v1, binA_eql, binA_neq, binA_lss, binA_leq, binA_gtr, binA_geq, loadA_one, un_not, ld_ptr, st_ptr, putE1, objE_obj, Option.bind_some, cut1, cut3, cut4, nil_ptr, fa_ptr, g_lt, g_eq, g_sne, g_seq, new_n, box_n, List.getElem?_cons_zero, List.getElem?_cons_succ, ex0, ex1, Sh.size, cells_int, aok_int, cells_bool, aok_bool, cells_str, aok_str, cells_lst, aok_lst, cells_ptr, aok_ptr, cells_arr, aok_arr, cells_fn, aok_fn, cells_mref, aok_mref, cells_nilp, aok_nilp, cells_agg, shOk_n, shOk_s, lenA_lst, List.length_cons, List.length_nil, if_true, putAt, List.take_succ_cons, List.take_zero, List.drop_succ_cons, List.drop_zero, List.cons_append, List.nil_append, List.append_nil, Nat.zero_add, Nat.reduceAdd, Nat.reduceLeDiff, Nat.le_refl, List.drop_nil, List.take_nil, List.length_append, List.length_set, e47]; first | done | rfl) | rfl)); try dsimp only)
  rw [ha, Bool.not_true, ifA_f]
  repeat ((with_reducible (first | apply bs | apply bsy)); (focus (first | (simp (disch := (first | assumption | omega | (simp only [List.length_append, List.length_set, List.length_cons, List.length_nil]; first | done | omega))) only [List.all_cons, List.all_nil, Bool.and_true, Bool.and_self, beq_self_eq_true, resv1, List.length_map, ld_v3, ld_v1, binA_eql, binA_neq, binA_lss, binA_leq, binA_gtr, binA_geq, loadA_one, un_not, ld_ptr, st_ptr, putE1, objE_obj, Option.bind_some, cut1, cut3, cut4, nil_ptr, fa_ptr, g_lt, g_eq, g_sne, g_seq, new_n, box_n, List.getElem?_cons_zero, List.getElem?_cons_succ, ex0, ex1, Sh.size, cells_int, aok_int, cells_bool, aok_bool, cells_str, aok_str, cells_lst, aok_lst, cells_ptr, aok_ptr, cells_arr, aok_arr, cells_fn, aok_fn, cells_mref, aok_mref, cells_nilp, aok_nilp, cells_agg, shOk_n, shOk_s, lenA_lst, List.length_cons, List.length_nil, if_true, putAt, List.take_succ_cons, List.take_zero, List.drop_succ_cons, List.drop_zero, List.cons_append, List.nil_append, List.append_nil, Nat.zero_add, Nat.reduceAdd, Nat.reduceLeDiff, Nat.le_refl, List.drop_nil, List.take_nil, List.length_append, List.length_set, g1, e52]; first | done | rfl) | rfl)); try dsimp only)
/-! ### Count, Node -/
end
end Go.Ab

/- Diagrams: what a store's nodes stand for; equal meanings, equal nodes. Plain Lean, no program in sight. -/
set_option linter.unusedVariables false
set_option linter.unusedSimpArgs false
namespace Go.Ab

theorem nodup_inj {α : Type} {l : List α} (h : l.Nodup) {i j : Nat} (hi : i < l.length) (hj : j < l.length) (e : l[i] = l[j]) : i = j := by
  have hp := List.pairwise_iff_getElem.1 h
  rcases Nat.lt_trichotomy i j with hh | hh | hh
  · exact absurd e (hp i j hi hj hh)
  · exact hh
  · exact absurd e.symm (hp j i hj hi hh)
/-- What is so of a store's nodes: each stands behind its kids, of later variables; no two are the same; the kids of none are all one. -/
structure GoodL (ar : List Int) (l : List ND) : Prop where
  ok : ∀ n ∈ l, n.ok
  nd : l.Nodup
  var : ∀ (i : Nat) (h : i < l.length), 0 ≤ l[i].var → l[i].var < ar.length ∧ (l[i].kids.length : Int) = ar.getD l[i].var.toNat 0
  kid : ∀ (i : Nat) (h : i < l.length), 0 ≤ l[i].var → ∀ k ∈ l[i].kids, ∃ t : Nat, k = t ∧ t < i ∧ ∀ (ht : t < l.length), l[i].var < abv ar.length l[t]
  dif : ∀ (i : Nat) (h : i < l.length), 0 ≤ l[i].var → ∃ k ∈ l[i].kids, k ≠ l[i].kids.headD 0
/-- The leaf that an assignment reaches. -/
def sem (l : List ND) (a : Nat → Nat) : Nat → Nat → Int
  | 0, _ => 0
  | n + 1, i => match l[i]? with
    | none => 0
    | some x => if x.var < 0 then x.leaf else sem l a n (x.kids.getD (a x.var.toNat) 0).toNat
def S (l : List ND) (a : Nat → Nat) (i : Nat) : Int := sem l a (i + 1) i
/-- An assignment: each variable has an arm. -/
def Asg (ar : List Int) (a : Nat → Nat) : Prop := ∀ v, v < ar.length → (a v : Int) < ar.getD v 0
def upd (a : Nat → Nat) (v k : Nat) : Nat → Nat := fun w => if w = v then k else a w
theorem Asg.upd {ar : List Int} {a : Nat → Nat} (h : Asg ar a) {v k : Nat} (hk : (k : Int) < ar.getD v 0) : Asg ar (upd a v k) := fun w hw => by
  unfold Ab.upd
  split
  · rename_i e; rw [e]; exact hk
  · exact h w hw
section
variable {ar : List Int} {l : List ND}
theorem kid_at (g : GoodL ar l) {i : Nat} (hi : i < l.length) (hv : 0 ≤ l[i].var) {k : Nat} (hk : (k : Int) < ar.getD l[i].var.toNat 0) :
    ∃ t : Nat, l[i].kids.getD k 0 = t ∧ t < i ∧ ∀ (ht : t < l.length), l[i].var < abv ar.length l[t] := by
  have hl := (g.var i hi hv).2
  have hkl : k < l[i].kids.length := by omega
  rw [List.getD_eq_getElem?_getD, List.getElem?_eq_getElem hkl, Option.getD_some]
  exact g.kid i hi hv _ (List.getElem_mem hkl)
theorem sem_fuel (g : GoodL ar l) {a : Nat → Nat} (ha : Asg ar a) : ∀ (n i m : Nat), i < l.length → i < n → i < m → sem l a n i = sem l a m i
  | 0, i, m, _, h, _ => by omega
  | n + 1, i, 0, _, _, h => by omega
  | n + 1, i, m + 1, hi, _, _ => by
    simp only [sem, List.getElem?_eq_getElem hi]
    by_cases hv : l[i].var < 0
    · rw [if_pos hv, if_pos hv]
    · rw [if_neg hv, if_neg hv]
      obtain ⟨hv1, hv2⟩ := g.var i hi (by omega)
      obtain ⟨t, e, ht, _⟩ := kid_at g hi (by omega) (ha l[i].var.toNat (by omega))
      rw [e, Int.toNat_natCast]
      exact sem_fuel g ha n t m (by omega) (by omega) (by omega)
theorem S_leaf {a : Nat → Nat} {i : Nat} (hi : i < l.length) (hv : l[i].var < 0) : S l a i = l[i].leaf := by
  simp only [S, sem, List.getElem?_eq_getElem hi, if_pos hv]
theorem S_node (g : GoodL ar l) {a : Nat → Nat} (ha : Asg ar a) {i : Nat} (hi : i < l.length) (hv : ¬ l[i].var < 0) : S l a i = S l a (l[i].kids.getD (a l[i].var.toNat) 0).toNat := by
  obtain ⟨hv1, hv2⟩ := g.var i hi (by omega)
  obtain ⟨t, e, ht, _⟩ := kid_at g hi (by omega) (ha l[i].var.toNat (by omega))
  rw [e, Int.toNat_natCast]
  unfold S
  rw [sem]
  simp only [List.getElem?_eq_getElem hi, if_neg hv, e, Int.toNat_natCast]
  exact sem_fuel g ha _ _ _ (by omega) (by omega) (by omega)
/-- A variable above a node does not matter to it. -/
theorem S_indep (g : GoodL ar l) {a : Nat → Nat} (ha : Asg ar a) {v k : Nat} (hk : (k : Int) < ar.getD v 0) : ∀ (i : Nat) (hi : i < l.length), (v : Int) < abv ar.length l[i] → S l (upd a v k) i = S l a i := by
  intro i
  induction i using Nat.strongRecOn with
  | ind i ih =>
    intro hi hv
    by_cases hn : l[i].var < 0
    · rw [S_leaf hi hn, S_leaf hi hn]
    · rw [abv, if_pos (by omega)] at hv
      have hne : l[i].var.toNat ≠ v := by omega
      have e : upd a v k l[i].var.toNat = a l[i].var.toNat := by unfold upd; rw [if_neg hne]
      rw [S_node g (ha.upd hk) hi hn, S_node g ha hi hn, e]
      obtain ⟨hv1, hv2⟩ := g.var i hi (by omega)
      obtain ⟨t, e, ht, h2⟩ := kid_at g hi (by omega) (ha l[i].var.toNat (by omega))
      rw [e, Int.toNat_natCast]
      exact ih t ht (by omega) (by have := h2 (by omega); omega)
theorem S_upd (g : GoodL ar l) {a : Nat → Nat} (ha : Asg ar a) {i : Nat} (hi : i < l.length) {v k : Nat} (hv : l[i].var = v) (hk : (k : Int) < ar.getD v 0) : S l (upd a v k) i = S l a (l[i].kids.getD k 0).toNat := by
  have hvt : l[i].var.toNat = v := by omega
  rw [S_node g (ha.upd hk) hi (by omega), hvt]
  have e : upd a v k v = k := by unfold upd; rw [if_pos rfl]
  rw [e]
  obtain ⟨t, e, ht, h2⟩ := kid_at g hi (by omega) (k := k) (by rw [hvt]; exact hk)
  rw [e, Int.toNat_natCast]
  exact S_indep g ha hk t (by omega) (by have := h2 (by omega); omega)
theorem list_eq_getD {x y : List Int} (hl : x.length = y.length) (h : ∀ k, k < x.length → x.getD k 0 = y.getD k 0) : x = y := by
  apply List.ext_getElem hl
  intro i h1 h2
  have := h i h1
  rwa [List.getD_eq_getElem?_getD, List.getD_eq_getElem?_getD, List.getElem?_eq_getElem h1, List.getElem?_eq_getElem h2] at this
/-- Where the kids of a node all mean one thing they are all one. -/
theorem not_one (g : GoodL ar l) (h1 : ∀ x ∈ ar, 1 ≤ x) {i j : Nat} (hi : i < l.length) (hv : 0 ≤ l[i].var) (h : ∀ k : Nat, (k : Int) < ar.getD l[i].var.toNat 0 → l[i].kids.getD k 0 = j) : False := by
  obtain ⟨k, hk, hne⟩ := g.dif i hi hv
  have hl := (g.var i hi hv).2
  have all : ∀ k ∈ l[i].kids, k = j := fun k hk => by
    obtain ⟨t, ht, e⟩ := List.getElem_of_mem hk
    have := h t (by omega)
    rw [List.getD_eq_getElem?_getD, List.getElem?_eq_getElem ht, Option.getD_some] at this
    rw [← e, this]
  apply hne
  rw [all k hk]
  cases hh : l[i].kids with
  | nil => rw [hh] at hk; cases hk
  | cons x y => rw [List.headD_cons]; exact (all x (by rw [hh]; exact List.mem_cons_self)).symm
theorem asg0 (h1 : ∀ x ∈ ar, 1 ≤ x) : Asg ar fun _ => 0 := fun v hv => by
  have := h1 (ar[v]) (List.getElem_mem hv)
  rw [List.getD_eq_getElem?_getD, List.getElem?_eq_getElem hv, Option.getD_some]
  show ((0 : Nat) : Int) < _
  omega
/-- CANONICAL FORM: what means the same is the same node. -/
theorem canon (g : GoodL ar l) (h1 : ∀ x ∈ ar, 1 ≤ x) : ∀ (n i j : Nat) (hi : i < l.length) (hj : j < l.length), i + j < n → (∀ a, Asg ar a → S l a i = S l a j) → i = j := by
  intro n
  induction n with
  | zero => intro i j _ _ h; omega
  | succ n ih =>
    have half : ∀ (i j : Nat) (hi : i < l.length) (hj : j < l.length), i + j < n + 1 → (∀ a, Asg ar a → S l a i = S l a j) → ¬ l[i].var < 0 → l[i].var < abv ar.length l[j] → False := by
      intro i j hi hj hn h hv hlt
      refine not_one g h1 hi (j := j) (by omega) fun k hk => ?_
      obtain ⟨t, e, ht, h2⟩ := kid_at g hi (by omega) hk
      have hvt : ((l[i].var.toNat : Nat) : Int) = l[i].var := by omega
      rw [e]
      congr 1
      refine ih t j (by omega) hj (by omega) fun a ha => ?_
      have e1 := S_upd g ha hi (v := l[i].var.toNat) (k := k) hvt.symm hk
      rw [e, Int.toNat_natCast] at e1
      rw [← e1, h _ (ha.upd hk)]
      exact S_indep g ha hk j hj (by omega)
    intro i j hi hj hn h
    by_cases hvi : l[i].var < 0
    · by_cases hvj : l[j].var < 0
      · have hs := h _ (asg0 h1)
        rw [S_leaf hi hvi, S_leaf hj hvj] at hs
        have e : l[i] = l[j] := by
          have oi := g.ok _ (List.getElem_mem hi)
          have oj := g.ok _ (List.getElem_mem hj)
          rcases oi with ⟨a1, a2, _⟩ | ⟨a1, _⟩
          · rcases oj with ⟨b1, b2, _⟩ | ⟨b1, _⟩
            · generalize l[i] = x at *
              generalize l[j] = y at *
              obtain ⟨xv, xk, xl⟩ := x
              obtain ⟨yv, yk, yl⟩ := y
              simp only at a1 a2 b1 b2 hs
              rw [a1, a2, b1, b2, hs]
            · omega
          · omega
        exact nodup_inj g.nd hi hj e
      · refine (half j i hj hi (by omega) (fun a ha => (h a ha).symm) hvj ?_).elim
        rw [abv, if_neg (by omega)]
        exact (g.var j hj (by omega)).1
    · by_cases hlt : l[i].var < abv ar.length l[j]
      · exact (half i j hi hj hn h hvi hlt).elim
      · have hvj : ¬ l[j].var < 0 := fun hh => hlt (by rw [abv, if_neg (by omega)]; exact (g.var i hi (by omega)).1)
        rw [abv, if_pos (by omega)] at hlt
        by_cases hlt2 : l[j].var < l[i].var
        · exact (half j i hj hi (by omega) (fun a ha => (h a ha).symm) hvj (by rw [abv, if_pos (by omega)]; exact hlt2)).elim
        · have hv : l[i].var = l[j].var := by omega
          have vi := g.var i hi (by omega)
          have vj := g.var j hj (by omega)
          have hk : l[i].kids = l[j].kids := by
            refine list_eq_getD (by rw [hv] at vi; omega) fun k hk => ?_
            have hki : (k : Int) < ar.getD l[i].var.toNat 0 := by omega
            have hkj : (k : Int) < ar.getD l[j].var.toNat 0 := by rw [← hv]; exact hki
            obtain ⟨t, e, ht, h2⟩ := kid_at g hi (by omega) hki
            obtain ⟨u, e', hu, h2'⟩ := kid_at g hj (by omega) hkj
            rw [e, e']
            congr 1
            refine ih t u (by omega) (by omega) (by omega) fun a ha => ?_
            have e1 := S_upd g ha hi (v := l[i].var.toNat) (k := k) (by omega) hki
            have e2 := S_upd g ha hj (v := l[i].var.toNat) (k := k) (by omega) hki
            rw [e, Int.toNat_natCast] at e1
            rw [e', Int.toNat_natCast] at e2
            rw [← e1, ← e2, h _ (ha.upd hki)]
          have e : l[i] = l[j] := by
            have oi := g.ok _ (List.getElem_mem hi)
            have oj := g.ok _ (List.getElem_mem hj)
            have li : l[i].leaf = 0 := by
              rcases oi with ⟨a1, _⟩ | ⟨_, _, a3, _⟩
              · omega
              · exact a3
            have lj : l[j].leaf = 0 := by
              rcases oj with ⟨a1, _⟩ | ⟨_, _, a3, _⟩
              · omega
              · exact a3
            generalize l[i] = x at *
            generalize l[j] = y at *
            obtain ⟨xv, xk, xl⟩ := x
            obtain ⟨yv, yk, yl⟩ := y
            simp only at hv hk li lj
            rw [hv, hk, li, lj]
          exact nodup_inj g.nd hi hj e
/-- What is put behind turns nothing. -/
theorem S_app (g : GoodL ar l) (r : List ND) {a : Nat → Nat} (ha : Asg ar a) : ∀ (i : Nat), i < l.length → S (l ++ r) a i = S l a i := by
  have key : ∀ (n i : Nat), i < l.length → i < n → sem (l ++ r) a n i = sem l a n i := by
    intro n
    induction n with
    | zero => intro i _ h; omega
    | succ n ih =>
      intro i hi _
      simp only [sem, List.getElem?_append_left hi, List.getElem?_eq_getElem hi]
      by_cases hv : l[i].var < 0
      · rw [if_pos hv, if_pos hv]
      · rw [if_neg hv, if_neg hv]
        obtain ⟨hv1, hv2⟩ := g.var i hi (by omega)
        obtain ⟨t, e, ht, _⟩ := kid_at g hi (by omega) (ha l[i].var.toNat (by omega))
        rw [e, Int.toNat_natCast]
        exact ih t (by omega) (by omega)
  intro i hi
  exact key _ i hi (by omega)
theorem good_nil : GoodL ar [] := ⟨by simp, by simp, fun i h => by simp at h, fun i h => by simp at h, fun i h => by simp at h⟩
/-- A new node. -/
theorem good_snoc (g : GoodL ar l) {n : ND} (hn : n.ok) (hne : n ∉ l) (h1 : 0 ≤ n.var → n.var < ar.length ∧ (n.kids.length : Int) = ar.getD n.var.toNat 0 ∧ (∀ k ∈ n.kids, ∃ t : Nat, k = t ∧ ∃ ht : t < l.length, n.var < abv ar.length l[t]) ∧ ∃ k ∈ n.kids, k ≠ n.kids.headD 0) : GoodL ar (l ++ [n]) := by
  have old : ∀ i (h : i < (l ++ [n]).length), (∃ h' : i < l.length, (l ++ [n])[i] = l[i]) ∨ (i = l.length ∧ (l ++ [n])[i] = n) := fun i h => by
    by_cases hi : i < l.length
    · exact .inl ⟨hi, List.getElem_append_left hi⟩
    · have : i = l.length := by simp at h; omega
      subst this
      exact .inr ⟨rfl, by simp⟩
  refine ⟨fun x hx => ?_, ?_, fun i h hv => ?_, fun i h hv k hk => ?_, fun i h hv => ?_⟩
  · rcases List.mem_append.1 hx with hx | hx
    · exact g.ok x hx
    · obtain rfl : x = n := by simpa using hx
      exact hn
  · rw [List.nodup_append]
    exact ⟨g.nd, by simp, fun a ha b hb e => by
      obtain rfl : b = n := by simpa using hb
      exact hne (e ▸ ha)⟩
  · rcases old i h with ⟨h', e⟩ | ⟨_, e⟩
    · rw [e] at hv ⊢; exact g.var i h' hv
    · rw [e] at hv ⊢; exact ⟨(h1 hv).1, (h1 hv).2.1⟩
  · rcases old i h with ⟨h', e⟩ | ⟨hil, e⟩
    · rw [e] at hv hk ⊢
      obtain ⟨t, a1, a2, a3⟩ := g.kid i h' hv k hk
      refine ⟨t, a1, a2, fun ht => ?_⟩
      rw [List.getElem_append_left (by omega)]
      exact a3 (by omega)
    · rw [e] at hv hk ⊢
      obtain ⟨t, a1, ht, a3⟩ := (h1 hv).2.2.1 k hk
      refine ⟨t, a1, by omega, fun ht' => ?_⟩
      rw [List.getElem_append_left ht]
      exact a3
  · rcases old i h with ⟨h', e⟩ | ⟨_, e⟩
    · rw [e] at hv ⊢; exact g.dif i h' hv
    · rw [e] at hv ⊢; exact (h1 hv).2.2.2
/-- What a put leaves: the nodes have grown behind, and the number told is the node's. -/
theorem ins_facts (n : ND) (l : List ND) : ∃ r, ins l n = l ++ r ∧ r.length ≤ 1 ∧ ∃ h : l.idxOf n < (ins l n).length, (ins l n)[l.idxOf n] = n := by
  unfold ins
  by_cases hm : n ∈ l
  · rw [if_pos hm]
    exact ⟨[], by simp, by simp, List.idxOf_lt_length_of_mem hm, List.getElem_idxOf _⟩
  · rw [if_neg hm]
    have e := idxOf_not hm
    refine ⟨[n], rfl, by simp, by rw [e]; simp, ?_⟩
    simp [e]
theorem good_ins (g : GoodL ar l) {n : ND} (hn : n.ok) (h1 : 0 ≤ n.var → n.var < ar.length ∧ (n.kids.length : Int) = ar.getD n.var.toNat 0 ∧ (∀ k ∈ n.kids, ∃ t : Nat, k = t ∧ ∃ ht : t < l.length, n.var < abv ar.length l[t]) ∧ ∃ k ∈ n.kids, k ≠ n.kids.headD 0) : GoodL ar (ins l n) := by
  unfold ins
  split
  · exact g
  · rename_i hm; exact good_snoc g hn hm h1
end
end Go.Ab

/- Tables of diagrams. Plain Lean. -/
set_option linter.unusedVariables false
set_option linter.unusedSimpArgs false
namespace Go.Ab

def prodF : List Int → Nat
  | [] => 1
  | n :: r => n.toNat * prodF r
def idxF : List Int → Nat → (Nat → Nat) → Nat
  | [], _, _ => 0
  | n :: r, v, a => a v * prodF r + idxF r (v + 1) a
theorem drop_cons' {ar : List Int} {v : Nat} (hv : v < ar.length) : ar.drop v = ar.getD v 0 :: ar.drop (v + 1) := by
  rw [List.getD_eq_getElem?_getD, List.getElem?_eq_getElem hv, Option.getD_some]
  exact List.drop_eq_getElem_cons hv
theorem idx_step {ar : List Int} {v : Nat} (hv : v < ar.length) (a : Nat → Nat) : idxF (ar.drop v) v a = a v * prodF (ar.drop (v + 1)) + idxF (ar.drop (v + 1)) (v + 1) a := by
  rw [drop_cons' hv, idxF]
theorem prod_step {ar : List Int} {v : Nat} (hv : v < ar.length) : prodF (ar.drop v) = (ar.getD v 0).toNat * prodF (ar.drop (v + 1)) := by
  rw [drop_cons' hv, prodF]
theorem idx_lt {ar : List Int} {a : Nat → Nat} (ha : Asg ar a) : ∀ (d v : Nat), v + d = ar.length → idxF (ar.drop v) v a < prodF (ar.drop v)
  | 0, v, h => by rw [List.drop_eq_nil_of_le (by omega)]; simp [idxF, prodF]
  | d + 1, v, h => by
    have hv : v < ar.length := by omega
    have ih := idx_lt ha d (v + 1) (by omega)
    have hk := ha v hv
    rw [idx_step hv, prod_step hv]
    have h2 : a v + 1 ≤ (ar.getD v 0).toNat := by omega
    calc a v * prodF (ar.drop (v + 1)) + idxF (ar.drop (v + 1)) (v + 1) a < a v * prodF (ar.drop (v + 1)) + prodF (ar.drop (v + 1)) := by omega
      _ = (a v + 1) * prodF (ar.drop (v + 1)) := by rw [Nat.add_mul, Nat.one_mul]
      _ ≤ _ := Nat.mul_le_mul_right _ h2
theorem idx_upd {ar : List Int} {a : Nat → Nat} {w k : Nat} : ∀ (d v : Nat), v + d = ar.length → w < v → idxF (ar.drop v) v (upd a w k) = idxF (ar.drop v) v a
  | 0, v, h, _ => by rw [List.drop_eq_nil_of_le (by omega)]; rfl
  | d + 1, v, h, hw => by
    have hv : v < ar.length := by omega
    rw [idx_step hv, idx_step hv, idx_upd d (v + 1) (by omega) (by omega)]
    have : upd a w k v = a v := by unfold upd; rw [if_neg (by omega)]
    rw [this]
/-- Each place of a table is some assignment's. -/
theorem idx_surj {ar : List Int} (h1 : ∀ x ∈ ar, 1 ≤ x) : ∀ (d v i : Nat), v + d = ar.length → i < prodF (ar.drop v) → ∃ a, Asg ar a ∧ idxF (ar.drop v) v a = i
  | 0, v, i, h, hi => by
    rw [List.drop_eq_nil_of_le (by omega)] at hi ⊢
    simp only [prodF] at hi
    exact ⟨_, asg0 h1, by simp only [idxF]; omega⟩
  | d + 1, v, i, h, hi => by
    have hv : v < ar.length := by omega
    rw [prod_step hv] at hi
    have hpos : 0 < prodF (ar.drop (v + 1)) := Nat.pos_of_ne_zero fun e => by rw [e] at hi; omega
    obtain ⟨a, ha, e⟩ := idx_surj h1 d (v + 1) (i % prodF (ar.drop (v + 1))) (by omega) (Nat.mod_lt _ hpos)
    have hk : i / prodF (ar.drop (v + 1)) < (ar.getD v 0).toNat := Nat.div_lt_of_lt_mul (by rw [Nat.mul_comm]; exact hi)
    have hdm := Nat.div_add_mod i (prodF (ar.drop (v + 1)))
    generalize i / prodF (ar.drop (v + 1)) = q at hk hdm
    refine ⟨upd a v q, ha.upd (by omega), ?_⟩
    rw [idx_step hv, idx_upd d (v + 1) (by omega) (by omega), e]
    have : upd a v q v = q := by unfold upd; rw [if_pos rfl]
    rw [this, Nat.mul_comm]
    exact hdm
/-- A part of a table. -/
def part (t : List Int) (n k : Nat) : List Int := (t.drop (k * n)).take n
theorem part_len {t : List Int} {n k a : Nat} (ht : t.length = a * n) (hk : k < a) : (part t n k).length = n := by
  unfold part
  rw [List.length_take, List.length_drop, ht]
  have : k * n + n ≤ a * n := by
    have := Nat.mul_le_mul_right n (show k + 1 ≤ a by omega)
    rwa [Nat.add_mul, Nat.one_mul] at this
  omega
theorem part_get {t : List Int} {n k r : Nat} (hr : r < n) : (part t n k).getD r 0 = t.getD (k * n + r) 0 := by
  unfold part
  simp only [List.getD_eq_getElem?_getD, List.getElem?_take, if_pos hr, List.getElem?_drop]
theorem part_mem {t : List Int} {n k : Nat} : ∀ x ∈ part t n k, x ∈ t := fun x hx => List.drop_subset _ _ (List.take_subset _ _ hx)
/-- The node id stands for the table t, of the variables from v on. -/
structure TabV (ar : List Int) (l : List ND) (id v : Nat) (t : List Int) : Prop where
  len : t.length = prodF (ar.drop v)
  lt : id < l.length
  top : ∀ h : id < l.length, (v : Int) ≤ abv ar.length l[id]
  val : ∀ a, Asg ar a → S l a id = t.getD (idxF (ar.drop v) v a) 0
theorem TabV.app {ar : List Int} {l : List ND} {id v : Nat} {t : List Int} (g : GoodL ar l) (h : TabV ar l id v t) (r : List ND) : TabV ar (l ++ r) id v t :=
  ⟨h.len, by have := h.lt; simp; omega, fun hh => by rw [List.getElem_append_left h.lt]; exact h.top h.lt, fun a ha => by rw [S_app g r ha id h.lt]; exact h.val a ha⟩
theorem tab_same {ar : List Int} {l : List ND} {i j v : Nat} {t : List Int} (g : GoodL ar l) (h1 : ∀ x ∈ ar, 1 ≤ x) (hi : TabV ar l i v t) (hj : TabV ar l j v t) : i = j :=
  canon g h1 _ i j hi.lt hj.lt (Nat.lt_succ_self _) fun a ha => (hi.val a ha).trans (hj.val a ha).symm
section
variable {ar : List Int} {l : List ND}
/-- node: what it leaves. -/
theorem nodeR_facts (g : GoodL ar l) (h1 : ∀ x ∈ ar, 1 ≤ x ∧ x ≤ 64) (hal : ar.length ≤ 16) {v : Nat} (hv : v < ar.length) {ks : List Nat} (hl : (ks.length : Int) = ar.getD v 0) (hk : ∀ k ∈ ks, ∃ h : k < l.length, (v : Int) < abv ar.length l[k]) (hll : l.length ≤ 100000) :
    ∃ r id, nodeR l v (ks.map Int.ofNat) = (((id : Nat) : Int), l ++ r) ∧ r.length ≤ 1 ∧ (ks.length = 1 → r = []) ∧ GoodL ar (l ++ r) ∧ ∃ h : id < (l ++ r).length, (v : Int) ≤ abv ar.length (l ++ r)[id] ∧ ∀ a, Asg ar a → S (l ++ r) a id = S l a (ks.getD (a v) 0) := by
  have hav := h1 (ar[v]) (List.getElem_mem hv)
  have hget : ar.getD v 0 = ar[v] := by rw [List.getD_eq_getElem?_getD, List.getElem?_eq_getElem hv, Option.getD_some]
  rw [hget] at hl
  obtain ⟨k0, kt, rfl⟩ : ∃ k0 kt, ks = k0 :: kt := by
    cases ks with
    | nil => simp at hl; omega
    | cons k0 kt => exact ⟨k0, kt, rfl⟩
  rw [List.map_cons, nodeR_cons]
  obtain ⟨hk0, hk0v⟩ := hk k0 List.mem_cons_self
  by_cases hall : ((Int.ofNat k0 :: kt.map Int.ofNat).all fun k => k == Int.ofNat k0) = true
  · rw [if_pos hall]
    refine ⟨[], k0, by rw [List.append_nil]; rfl, by simp, fun _ => rfl, by rw [List.append_nil]; exact g, by rw [List.append_nil]; exact hk0, ?_, fun a ha => ?_⟩
    · simp only [List.append_nil]; omega
    · have hlt : a v < (k0 :: kt).length := by have := ha v hv; rw [hget] at this; omega
      have : (k0 :: kt).getD (a v) 0 = k0 := by
        rw [List.getD_eq_getElem?_getD, List.getElem?_eq_getElem hlt, Option.getD_some]
        have h2 := List.all_eq_true.1 hall (Int.ofNat (k0 :: kt)[a v]) (by rw [← List.map_cons]; exact List.mem_map_of_mem (List.getElem_mem hlt))
        exact Int.ofNat.inj (by simpa using h2)
      rw [this, List.append_nil]
  · rw [if_neg hall]
    have hmem : ∀ k ∈ (Int.ofNat k0 :: kt.map Int.ofNat), ∃ t : Nat, k = t ∧ ∃ ht : t < l.length, (v : Int) < abv ar.length l[t] := fun k hk' => by
      rw [← List.map_cons] at hk'
      obtain ⟨t, ht, rfl⟩ := List.mem_map.1 hk'
      exact ⟨t, rfl, hk t ht⟩
    have hok : (nodeN v (Int.ofNat k0 :: kt.map Int.ofNat)).ok := by
      refine .inr ⟨by simp only [nodeN]; omega, by simp only [nodeN]; omega, rfl, fun k hk' => ?_, ?_⟩
      · obtain ⟨t, rfl, ht, _⟩ := hmem k hk'
        omega
      · simp only [nodeN, List.length_cons, List.length_map]
        simp only [List.length_cons] at hl
        omega
    obtain ⟨r, er, hr, hidl, hid⟩ := ins_facts (nodeN v (Int.ofNat k0 :: kt.map Int.ofNat)) l
    have gi : GoodL ar (ins l (nodeN v (Int.ofNat k0 :: kt.map Int.ofNat))) := by
      refine good_ins g hok fun _ => ⟨by simp only [nodeN]; omega, ?_, hmem, ?_⟩
      · simp only [nodeN, List.length_cons, List.length_map, Int.toNat_natCast]
        rw [hget]
        simpa using hl
      · simp only [nodeN]
        rw [Bool.not_eq_true, List.all_eq_false] at hall
        obtain ⟨k, hk', hne⟩ := hall
        exact ⟨k, hk', by simpa using hne⟩
    rw [er] at gi hidl ⊢
    have hid : (l ++ r)[l.idxOf (nodeN v (Int.ofNat k0 :: kt.map Int.ofNat))] = nodeN v (Int.ofNat k0 :: kt.map Int.ofNat) := by
      have : ∀ (y : List ND) (h : l.idxOf (nodeN v (Int.ofNat k0 :: kt.map Int.ofNat)) < y.length), ins l (nodeN v (Int.ofNat k0 :: kt.map Int.ofNat)) = y → y[l.idxOf (nodeN v (Int.ofNat k0 :: kt.map Int.ofNat))] = nodeN v (Int.ofNat k0 :: kt.map Int.ofNat) := fun y h e => by subst e; exact hid
      exact this _ hidl er
    refine ⟨r, _, rfl, hr, fun hone => ?_, gi, hidl, ?_, fun a ha => ?_⟩
    · exfalso
      have : kt = [] := by simpa using hone
      rw [this] at hall
      simp at hall
    · rw [hid, abv, if_pos (by simp only [nodeN]; omega)]
      exact Int.le_refl _
    · have e := S_node gi ha hidl (by rw [hid]; simp only [nodeN]; omega)
      rw [hid] at e
      have hlt : a v < (k0 :: kt).length := by have := ha v hv; rw [hget] at this; omega
      rw [e, show (nodeN (↑v) (Int.ofNat k0 :: kt.map Int.ofNat)).kids = Int.ofNat k0 :: kt.map Int.ofNat from rfl, show (nodeN (↑v) (Int.ofNat k0 :: kt.map Int.ofNat)).var = v from rfl, Int.toNat_natCast]
      have e2 : (Int.ofNat k0 :: kt.map Int.ofNat).getD (a v) 0 = (((k0 :: kt).getD (a v) 0 : Nat) : Int) := by
        rw [← List.map_cons, List.getD_eq_getElem?_getD, List.getElem?_map, List.getD_eq_getElem?_getD, List.getElem?_eq_getElem hlt]; rfl
      rw [e2, Int.toNat_natCast]
      refine S_app g r ha _ ?_
      rw [List.getD_eq_getElem?_getD, List.getElem?_eq_getElem hlt, Option.getD_some]
      exact (hk _ (List.getElem_mem hlt)).1
/-- leaf: what it leaves. -/
theorem leaf_facts (g : GoodL ar l) {x : Int} (hx : 0 ≤ x ∧ x ≤ 2147483647) : ∃ r, ins l (leafN x) = l ++ r ∧ r.length ≤ 1 ∧ GoodL ar (l ++ r) ∧ TabV ar (l ++ r) (l.idxOf (leafN x)) ar.length [x] := by
  obtain ⟨r, er, hr, hidl, hid⟩ := ins_facts (leafN x) l
  have gi : GoodL ar (ins l (leafN x)) := good_ins g (leafN_ok hx) fun h => by simp [leafN] at h
  rw [er] at gi
  have hidl' : l.idxOf (leafN x) < (l ++ r).length := by rw [← er]; exact hidl
  have hid' : (l ++ r)[l.idxOf (leafN x)] = leafN x := by
    have : ∀ (y : List ND) (h : l.idxOf (leafN x) < y.length), ins l (leafN x) = y → y[l.idxOf (leafN x)] = leafN x := fun y h e => by subst e; exact hid
    exact this _ hidl' er
  refine ⟨r, er, hr, gi, ⟨by rw [List.drop_length]; rfl, hidl', fun _ => ?_, fun a ha => ?_⟩⟩
  · rw [hid', abv, if_neg (by simp [leafN])]; exact Int.le_refl _
  · rw [S_leaf hidl' (by rw [hid']; simp [leafN]), hid', List.drop_length]; rfl
/-- A node over the parts of a table. -/
theorem tab_node (g : GoodL ar l) (h1 : ∀ x ∈ ar, 1 ≤ x ∧ x ≤ 64) (hal : ar.length ≤ 16) {v : Nat} (hv : v < ar.length) {ks : List Nat} {t : List Int} (hl : (ks.length : Int) = ar.getD v 0) (ht : t.length = prodF (ar.drop v)) (hk : ∀ (k : Nat) (h : k < ks.length), TabV ar l ks[k] (v + 1) (part t (prodF (ar.drop (v + 1))) k)) (hll : l.length ≤ 100000) :
    ∃ r id, nodeR l v (ks.map Int.ofNat) = (((id : Nat) : Int), l ++ r) ∧ r.length ≤ 1 ∧ (ks.length = 1 → r = []) ∧ GoodL ar (l ++ r) ∧ TabV ar (l ++ r) id v t := by
  have hget : ar.getD v 0 = ar[v] := by rw [List.getD_eq_getElem?_getD, List.getElem?_eq_getElem hv, Option.getD_some]
  obtain ⟨r, id, e, hr, hr1, gi, hidl, htop, hS⟩ := nodeR_facts g h1 hal hv hl (fun k hk' => by
    obtain ⟨i, hi, e⟩ := List.getElem_of_mem hk'
    have := hk i hi
    rw [e] at this
    exact ⟨this.lt, by have := this.top this.lt; omega⟩) hll
  refine ⟨r, id, e, hr, hr1, gi, ht, hidl, fun _ => htop, fun a ha => ?_⟩
  have hlt : a v < ks.length := by have := ha v hv; omega
  have hn := idx_lt ha (ar.length - (v + 1)) (v + 1) (by omega)
  rw [hS a ha, List.getD_eq_getElem?_getD, List.getElem?_eq_getElem hlt, Option.getD_some, (hk _ hlt).val a ha, part_get hn, idx_step hv]
end
end Go.Ab

/- What the interpreter does, function by function. -/
set_option maxRecDepth 100000
set_option linter.unusedVariables false
namespace Go.Ab
open Go.Proofs.Tryd
/-! ### sortilege/sortilegelaw23.few -/
def O4_4 (x3 : AV) (m : Mem) : St := ⟨[.any, .any, .any, x3, .any, .any, .any, .any, .any, .any, .any, .any, .any, .any, .any, .any, .any, .any, .any, .any, .any, .any, .any, .any, .any, .any, .any, .any, .any], m⟩
noncomputable def L4_4 (x3 : AV) (m : Mem) (K : Ex → St → Option (AV × Mem)) : Option (AV × Mem) := loopW (execW cfg 4 (AP cfg) (AC cfg) (c1 (c1 (c1 (c2 (c2 (c2 (bodyOf f4)))))))) (cfg.mask 4 (some 4)) ⟨[.any, .any, .any, x3, .any, .any, .any, .any, .any, .any, .any, .any, .any, .any, .any, .any, .any, .any, .any, .any, .any, .any, .any, .any, .any, .any, .any, .any, .any], m⟩ K
noncomputable abbrev K4_4_0 (K : Ex → St → Option (AV × Mem)) : Ex → St → Option (AV × Mem) := seqK (fun st => execW cfg 4 (AP cfg) (AC cfg) (c2 (c2 (c2 (c2 (bodyOf f4))))) st K) K
noncomputable abbrev K4_4_1 (K : Ex → St → Option (AV × Mem)) : Ex → St → Option (AV × Mem) := blockK 0 (K4_4_0 K)
noncomputable abbrev K4_4 (K : Ex → St → Option (AV × Mem)) : Ex → St → Option (AV × Mem) := (K4_4_1 K)
theorem T4 (a0 : AV) (m : Mem) : AC cfg 4 [a0] m =
  (buildSliceA none []).bind fun v1 =>
  (lenA false a0).bind fun v2 =>
  (maxA false v2 (.int .i64 17)).bind fun v3 =>
  (sliceT none a0 none (some v3) none).bind fun v4 =>
  (appA none false 3 none 8 m v1 v4).bind fun r5 =>
  (pcall (AP cfg) none r5.2 5 [r5.1]).bind fun r6 =>
  (binA .other .neq r6.1 (.int .i64 0)).bind fun v7 =>
  ifA v7 (
  some (r5.1, r6.2)) (
  L4_4 r5.1 r6.2 (K4_4 (finK cfg.P f4.results.toList))) :=
(AC_eq cfg 4 [a0] m (fn := f4) (c := bodyOf f4) at4 rfl).trans (by kernel_rfl)
theorem L4_4_eq (x3 : AV) (m : Mem) (K : Ex → St → Option (AV × Mem)) : L4_4 x3 m K =
  (lenA false x3).bind fun v1 =>
  (binA .other .gtr v1 (.int .i64 0)).bind fun v2 =>
  ifA v2 (
  (pcall (AP cfg) none m 16 [x3, (.int .i64 300)]).bind fun r3 =>
  (binA .other .eql r3.1 (.int .i64 0)).bind fun v4 =>
  ifA v4 (
  (lenA false x3).bind fun v5 =>
  (binA .other .sub v5 (.int .i64 1)).bind fun v6 =>
  (sliceT none x3 none (some v6) none).bind fun v7 =>
  L4_4 v7 r3.2 K) (
  K (.exit 0) (O4_4 x3 r3.2))) (
  K (.exit 0) (O4_4 x3 m)) :=
(loopW_eq (execW_lin _) _ _ _).trans (by kernel_rfl)
theorem K4_4_x0 (x3 : AV) (m : Mem) : K4_4 (finK cfg.P f4.results.toList) (.exit 0) (O4_4 x3 m) =
  some (x3, m) := by kernel_rfl
/-! ### sortilege/sortilegelaw23.alive -/
theorem T6 (m : Mem) : AC cfg 6 [] m =
  (buildSliceA none [(.int .i64 2)]).bind fun v1 =>
  (AC cfg 17 [v1] m).bind fun r2 =>
  (extractA r2.1 0).bind fun v3 =>
  (extractA r2.1 1).bind fun v4 =>
  (binA .other .neq v4 (.int .i64 0)).bind fun v5 =>
  ifA v5 (
  some ((.bool false), r2.2)) (
  (binA .pt .eql v3 .nilp).bind fun v6 =>
  ifA v6 (
  some ((.bool false), r2.2)) (
  (AC cfg 18 [v3, (.int .i64 7)] r2.2).bind fun r7 =>
  (extractA r7.1 0).bind fun v8 =>
  (extractA r7.1 1).bind fun v9 =>
  (AC cfg 19 [v3, v8] r7.2).bind fun r10 =>
  (extractA r10.1 0).bind fun v11 =>
  (extractA r10.1 1).bind fun v12 =>
  (storeA (some 3) (newAt none r10.2 (.obj true [(.int .i64 0), (.lst none true .full []), (.int .i64 0)])).2 (.ptr (newAt none r10.2 .resv).1 0) v11).bind fun m13 =>
  (binA .other .eql v9 (.int .i64 0)).bind fun v14 =>
  ifA v14 (
  (binA .other .eql v12 (.int .i64 0)).bind fun v15 =>
  ifA v15 (
  (fieldAddrA 2 (.ptr (newAt none r10.2 .resv).1 0)).bind fun v16 =>
  (loadA none m13 v16).bind fun v17 =>
  (binA .other .eql v17 (.int .i64 7)).bind fun v18 =>
  ifA v18 (
  (fieldAddrA 0 (.ptr (newAt none r10.2 .resv).1 0)).bind fun v19 =>
  (loadA none m13 v19).bind fun v20 =>
  (binA .other .eql v20 (.int .i64 (-1))).bind fun v21 =>
  some (v21, m13)) (
  some ((.bool false), m13))) (
  some ((.bool false), m13))) (
  some ((.bool false), m13)))) :=
(AC_eq cfg 6 [] m (fn := f6) (c := bodyOf f6) at6 rfl).trans (by kernel_rfl)
/-! ### sortilege/sortilegelaw23.table -/
def O7_3 (x5 : AV) (m : Mem) : St := ⟨[.any, .any, .any, .any, .any, x5, .any, .any, .any, .any, .any, .any, .any, .any, .any, .any, .any, .any, .any, .any, .any, .any, .any, .any, .any, .any, .any, .any, .any, .any, .any, .any], m⟩
noncomputable def L7_3 (x0 x1 x5 x6 : AV) (m : Mem) (K : Ex → St → Option (AV × Mem)) : Option (AV × Mem) := loopW (execW cfg 7 (AP cfg) (AC cfg) (c1 (c1 (c2 (c1 (c2 (c2 (bodyOf f7)))))))) (cfg.mask 7 (some 3)) ⟨[x0, x1, .any, .any, .any, x5, x6, .any, .any, .any, .any, .any, .any, .any, .any, .any, .any, .any, .any, .any, .any, .any, .any, .any, .any, .any, .any, .any, .any, .any, .any, .any], m⟩ K
noncomputable abbrev K7_3_0 (K : Ex → St → Option (AV × Mem)) : Ex → St → Option (AV × Mem) := seqK (fun st => execW cfg 7 (AP cfg) (AC cfg) (c2 (c2 (c2 (bodyOf f7)))) st K) K
noncomputable abbrev K7_3_1 (K : Ex → St → Option (AV × Mem)) : Ex → St → Option (AV × Mem) := blockK 0 (K7_3_0 K)
noncomputable abbrev K7_3 (K : Ex → St → Option (AV × Mem)) : Ex → St → Option (AV × Mem) := (K7_3_1 K)
theorem T7 (a0 a1 : AV) (m : Mem) : AC cfg 7 [a0, a1] m =
  L7_3 a0 a1 (.lst none true .full []) (.int .i64 0) m (K7_3 (finK cfg.P f7.results.toList)) :=
(AC_eq cfg 7 [a0, a1] m (fn := f7) (c := bodyOf f7) at7 rfl).trans (by kernel_rfl)
theorem L7_3_eq (x0 x1 x5 x6 : AV) (m : Mem) (K : Ex → St → Option (AV × Mem)) : L7_3 x0 x1 x5 x6 m K =
  (pcall (AP cfg) none m 16 [x0, (.int .i64 300)]).bind fun r1 =>
  (binA .other .lss x6 r1.1).bind fun v2 =>
  ifA v2 (
  (lenA false x1).bind fun v3 =>
  (binA .other .gtr v3 (.int .i64 0)).bind fun v4 =>
  ifA v4 (
  (lenA false x1).bind fun v5 =>
  (binA .other .rem x6 v5).bind fun v6 =>
  (indexAddrA none x1 v6).bind fun v7 =>
  (loadA none r1.2 v7).bind fun v8 =>
  (binA .other .rem v8 (.int .i64 5)).bind fun v9 =>
  (binA .other .add v9 (.int .i64 5)).bind fun v10 =>
  (binA .other .rem v10 (.int .i64 5)).bind fun v11 =>
  (buildSliceA none [v11]).bind fun v12 =>
  (appA none false 3 none 8 r1.2 x5 v12).bind fun r13 =>
  (binA .other .add x6 (.int .i64 1)).bind fun v14 =>
  L7_3 x0 x1 r13.1 v14 r13.2 K) (
  (binA .other .rem (.int .i64 0) (.int .i64 5)).bind fun v15 =>
  (binA .other .add v15 (.int .i64 5)).bind fun v16 =>
  (binA .other .rem v16 (.int .i64 5)).bind fun v17 =>
  (buildSliceA none [v17]).bind fun v18 =>
  (appA none false 3 none 8 r1.2 x5 v18).bind fun r19 =>
  (binA .other .add x6 (.int .i64 1)).bind fun v20 =>
  L7_3 x0 x1 r19.1 v20 r19.2 K)) (
  K (.exit 0) (O7_3 x5 r1.2)) :=
(loopW_eq (execW_lin _) _ _ _).trans (by kernel_rfl)
theorem K7_3_x0 (x5 : AV) (m : Mem) : K7_3 (finK cfg.P f7.results.toList) (.exit 0) (O7_3 x5 m) =
  some (x5, m) := by kernel_rfl
/-! ### sortilege/sortilegelaw23.made -/
theorem T8 (a0 a1 : AV) (m : Mem) : AC cfg 8 [a0, a1] m =
  (AC cfg 17 [a0] m).bind fun r1 =>
  (extractA r1.1 0).bind fun v2 =>
  (extractA r1.1 1).bind fun v3 =>
  (binA .other .neq v3 (.int .i64 0)).bind fun v4 =>
  ifA v4 (
  some ((.tup [.nilp, (.int .i64 0), (.bool false)]), r1.2)) (
  (AC cfg 20 [v2, a0, a1, (.int .i64 0)] r1.2).bind fun r5 =>
  (extractA r5.1 0).bind fun v6 =>
  (extractA r5.1 1).bind fun v7 =>
  (binA .other .eql v7 (.int .i64 0)).bind fun v8 =>
  some ((.tup [v2, v6, v8]), r5.2)) :=
(AC_eq cfg 8 [a0, a1] m (fn := f8) (c := bodyOf f8) at8 rfl).trans (by kernel_rfl)
/-! ### sortilege/sortilegelaw23.build -/
def O20_6 (x0 x3 x10 : AV) (m : Mem) : St := ⟨[x0, .any, .any, x3, .any, .any, .any, .any, .any, .any, x10, .any, .any, .any, .any, .any, .any, .any, .any, .any, .any, .any, .any, .any, .any, .any, .any, .any, .any, .any, .any, .any, .any, .any, .any, .any, .any, .any, .any, .any, .any, .any, .any, .any, .any, .any, .any, .any, .any, .any, .any, .any, .any, .any, .any, .any, .any, .any, .any, .any, .any, .any, .any, .any, .any, .any, .any, .any, .any, .any, .any], m⟩
def R20_6 (x8 x9 : AV) (m : Mem) : St := ⟨[.any, .any, .any, .any, .any, .any, .any, .any, x8, x9, .any, .any, .any, .any, .any, .any, .any, .any, .any, .any, .any, .any, .any, .any, .any, .any, .any, .any, .any, .any, .any, .any, .any, .any, .any, .any, .any, .any, .any, .any, .any, .any, .any, .any, .any, .any, .any, .any, .any, .any, .any, .any, .any, .any, .any, .any, .any, .any, .any, .any, .any, .any, .any, .any, .any, .any, .any, .any, .any, .any, .any], m⟩
noncomputable def L20_6 (x0 x1 x2 x3 x10 x11 x12 : AV) (m : Mem) (K : Ex → St → Option (AV × Mem)) : Option (AV × Mem) := loopW (execW cfg 20 (AP cfg) (AC cfg) (c1 (c1 (c2 (c1 (c2 (c2 (c2 (c2 (bodyOf f20)))))))))) (cfg.mask 20 (some 6)) ⟨[x0, x1, x2, x3, .any, .any, .any, .any, .any, .any, x10, x11, x12, .any, .any, .any, .any, .any, .any, .any, .any, .any, .any, .any, .any, .any, .any, .any, .any, .any, .any, .any, .any, .any, .any, .any, .any, .any, .any, .any, .any, .any, .any, .any, .any, .any, .any, .any, .any, .any, .any, .any, .any, .any, .any, .any, .any, .any, .any, .any, .any, .any, .any, .any, .any, .any, .any, .any, .any, .any, .any], m⟩ K
noncomputable abbrev K20_6_0 (K : Ex → St → Option (AV × Mem)) : Ex → St → Option (AV × Mem) := seqK (fun st => execW cfg 20 (AP cfg) (AC cfg) (c2 (c2 (c2 (c2 (c2 (bodyOf f20)))))) st K) K
noncomputable abbrev K20_6_1 (K : Ex → St → Option (AV × Mem)) : Ex → St → Option (AV × Mem) := blockK 0 (K20_6_0 K)
noncomputable abbrev K20_6 (K : Ex → St → Option (AV × Mem)) : Ex → St → Option (AV × Mem) := (K20_6_1 K)
theorem T20 (a0 a1 a2 a3 : AV) (m : Mem) : AC cfg 20 [a0, a1, a2, a3] m =
  (lenA false a1).bind fun v1 =>
  (binA .other .eql a3 v1).bind fun v2 =>
  ifA v2 (
  (indexAddrA none a2 (.int .i64 0)).bind fun v3 =>
  (loadA none m v3).bind fun v4 =>
  (AC cfg 18 [a0, v4] m).bind fun r5 =>
  (extractA r5.1 0).bind fun v6 =>
  (extractA r5.1 1).bind fun v7 =>
  some ((.tup [v6, v7]), r5.2)) (
  (lenA false a2).bind fun v8 =>
  (indexAddrA none a1 a3).bind fun v9 =>
  (loadA none m v9).bind fun v10 =>
  (binA .other .quo v8 v10).bind fun v11 =>
  L20_6 a0 a1 a2 a3 (.lst none true .full []) v11 (.int .i64 0) m (K20_6 (finK cfg.P f20.results.toList))) :=
(AC_eq cfg 20 [a0, a1, a2, a3] m (fn := f20) (c := bodyOf f20) at20 rfl).trans (by kernel_rfl)
theorem L20_6_eq (x0 x1 x2 x3 x10 x11 x12 : AV) (m : Mem) (K : Ex → St → Option (AV × Mem)) : L20_6 x0 x1 x2 x3 x10 x11 x12 m K =
  (indexAddrA none x1 x3).bind fun v1 =>
  (loadA none m v1).bind fun v2 =>
  (binA .other .lss x12 v2).bind fun v3 =>
  ifA v3 (
  (binA .other .mul x12 x11).bind fun v4 =>
  (binA .other .add x12 (.int .i64 1)).bind fun v5 =>
  (binA .other .mul v5 x11).bind fun v6 =>
  (sliceT none x2 (some v4) (some v6) none).bind fun v7 =>
  (binA .other .add x3 (.int .i64 1)).bind fun v8 =>
  (AC cfg 20 [x0, x1, v7, v8] m).bind fun r9 =>
  (extractA r9.1 0).bind fun v10 =>
  (extractA r9.1 1).bind fun v11 =>
  (binA .other .neq v11 (.int .i64 0)).bind fun v12 =>
  ifA v12 (
  K .ret (R20_6 (.int .i64 0) v11 r9.2)) (
  (buildSliceA none [v10]).bind fun v13 =>
  (appA none false 3 none 8 r9.2 x10 v13).bind fun r14 =>
  (binA .other .add x12 (.int .i64 1)).bind fun v15 =>
  L20_6 x0 x1 x2 x3 r14.1 x11 v15 r14.2 K)) (
  K (.exit 0) (O20_6 x0 x3 x10 m)) :=
(loopW_eq (execW_lin _) _ _ _).trans (by kernel_rfl)
theorem K20_6_x0 (x0 x3 x10 : AV) (m : Mem) : K20_6 (finK cfg.P f20.results.toList) (.exit 0) (O20_6 x0 x3 x10 m) =
  (AC cfg 37 [x0, x3, x10] m).bind fun r1 =>
  (extractA r1.1 0).bind fun v2 =>
  (extractA r1.1 1).bind fun v3 =>
  some ((.tup [v2, v3]), r1.2) := by kernel_rfl
end Go.Ab

/- What the interpreter does, function by function. -/
set_option maxRecDepth 100000
set_option linter.unusedVariables false
namespace Go.Ab
open Go.Proofs.Tryd
/-! ### sortilege/sortilegeref23.Arms -/
def O5_4 (m : Mem) : St := ⟨[.any, .any, .any, .any, .any, .any, .any, .any, .any, .any, .any, .any, .any, .any, .any, .any, .any, .any, .any, .any, .any], m⟩
def R5_4 (x2 : AV) (m : Mem) : St := ⟨[.any, .any, x2, .any, .any, .any, .any, .any, .any, .any, .any, .any, .any, .any, .any, .any, .any, .any, .any, .any, .any], m⟩
noncomputable def L5_4 (x8 x9 x10 : AV) (m : Mem) (K : Ex → St → Option (AV × Mem)) : Option (AV × Mem) := loopW (execW cfg 5 (AP cfg) (AC cfg) (c1 (c1 (c2 (c1 (c2 (c2 (bodyOf f5)))))))) (cfg.mask 5 (some 4)) ⟨[.any, .any, .any, .any, .any, .any, .any, .any, x8, x9, x10, .any, .any, .any, .any, .any, .any, .any, .any, .any, .any], m⟩ K
noncomputable abbrev K5_4_0 (K : Ex → St → Option (AV × Mem)) : Ex → St → Option (AV × Mem) := seqK (fun st => execW cfg 5 (AP cfg) (AC cfg) (c2 (c2 (c2 (bodyOf f5)))) st K) K
noncomputable abbrev K5_4_1 (K : Ex → St → Option (AV × Mem)) : Ex → St → Option (AV × Mem) := blockK 0 (K5_4_0 K)
noncomputable abbrev K5_4 (K : Ex → St → Option (AV × Mem)) : Ex → St → Option (AV × Mem) := (K5_4_1 K)
theorem T5 (a0 : AV) (m : Mem) : AC cfg 5 [a0] m =
  (lenA false a0).bind fun v1 =>
  (binA .other .gtr v1 (.int .i64 16)).bind fun v2 =>
  ifA v2 (
  some ((.int .i64 2), m)) (
  (lenA false a0).bind fun v3 =>
  L5_4 a0 v3 (.int .i64 0) m (K5_4 (finK cfg.P f5.results.toList))) :=
(AC_eq cfg 5 [a0] m (fn := f5) (c := bodyOf f5) at5 rfl).trans (by kernel_rfl)
theorem L5_4_eq (x8 x9 x10 : AV) (m : Mem) (K : Ex → St → Option (AV × Mem)) : L5_4 x8 x9 x10 m K =
  (binA .other .lss x10 x9).bind fun v1 =>
  ifA v1 (
  (indexAddrA none x8 x10).bind fun v2 =>
  (loadA none m v2).bind fun v3 =>
  (binA .other .lss v3 (.int .i64 1)).bind fun v4 =>
  ifA v4 (
  K .ret (R5_4 (.int .i64 1) m)) (
  (binA .other .gtr v3 (.int .i64 64)).bind fun v5 =>
  ifA v5 (
  K .ret (R5_4 (.int .i64 1) m)) (
  (binA .other .add x10 (.int .i64 1)).bind fun v6 =>
  L5_4 x8 x9 v6 m K))) (
  K (.exit 0) (O5_4 m)) :=
(loopW_eq (execW_lin _) _ _ _).trans (by kernel_rfl)
theorem K5_4_x0 (m : Mem) : K5_4 (finK cfg.P f5.results.toList) (.exit 0) (O5_4  m) =
  some ((.int .i64 0), m) := by kernel_rfl
theorem K5_4_ret (x2 : AV) (m : Mem) : K5_4 (finK cfg.P f5.results.toList) .ret (R5_4 x2 m) =
  some (x2, m) := by kernel_rfl
/-! ### sortilege/sortilegeref23.Places -/
def O16_3 (x5 : AV) (m : Mem) : St := ⟨[.any, .any, .any, .any, .any, x5, .any, .any, .any, .any, .any, .any, .any, .any, .any, .any, .any, .any, .any, .any, .any, .any], m⟩
def R16_3 (x4 : AV) (m : Mem) : St := ⟨[.any, .any, .any, .any, x4, .any, .any, .any, .any, .any, .any, .any, .any, .any, .any, .any, .any, .any, .any, .any, .any, .any], m⟩
noncomputable def L16_3 (x1 x5 x8 x9 x10 : AV) (m : Mem) (K : Ex → St → Option (AV × Mem)) : Option (AV × Mem) := loopW (execW cfg 16 (AP cfg) (AC cfg) (c1 (c1 (c2 (c1 (c2 (c2 (bodyOf f16)))))))) (cfg.mask 16 (some 3)) ⟨[.any, x1, .any, .any, .any, x5, .any, .any, x8, x9, x10, .any, .any, .any, .any, .any, .any, .any, .any, .any, .any, .any], m⟩ K
noncomputable abbrev K16_3_0 (K : Ex → St → Option (AV × Mem)) : Ex → St → Option (AV × Mem) := seqK (fun st => execW cfg 16 (AP cfg) (AC cfg) (c2 (c2 (c2 (bodyOf f16)))) st K) K
noncomputable abbrev K16_3_1 (K : Ex → St → Option (AV × Mem)) : Ex → St → Option (AV × Mem) := blockK 0 (K16_3_0 K)
noncomputable abbrev K16_3 (K : Ex → St → Option (AV × Mem)) : Ex → St → Option (AV × Mem) := (K16_3_1 K)
theorem T16 (a0 a1 : AV) (m : Mem) : AC cfg 16 [a0, a1] m =
  (lenA false a0).bind fun v1 =>
  L16_3 a1 (.int .i64 1) a0 v1 (.int .i64 0) m (K16_3 (finK cfg.P f16.results.toList)) :=
(AC_eq cfg 16 [a0, a1] m (fn := f16) (c := bodyOf f16) at16 rfl).trans (by kernel_rfl)
theorem L16_3_eq (x1 x5 x8 x9 x10 : AV) (m : Mem) (K : Ex → St → Option (AV × Mem)) : L16_3 x1 x5 x8 x9 x10 m K =
  (binA .other .lss x10 x9).bind fun v1 =>
  ifA v1 (
  (indexAddrA none x8 x10).bind fun v2 =>
  (loadA none m v2).bind fun v3 =>
  (binA .other .mul x5 v3).bind fun v4 =>
  (binA .other .gtr v4 x1).bind fun v5 =>
  ifA v5 (
  K .ret (R16_3 (.int .i64 0) m)) (
  (binA .other .add x10 (.int .i64 1)).bind fun v6 =>
  L16_3 x1 v4 x8 x9 v6 m K)) (
  K (.exit 0) (O16_3 x5 m)) :=
(loopW_eq (execW_lin _) _ _ _).trans (by kernel_rfl)
theorem K16_3_x0 (x5 : AV) (m : Mem) : K16_3 (finK cfg.P f16.results.toList) (.exit 0) (O16_3 x5 m) =
  some (x5, m) := by kernel_rfl
theorem K16_3_ret (x4 : AV) (m : Mem) : K16_3 (finK cfg.P f16.results.toList) .ret (R16_3 x4 m) =
  some (x4, m) := by kernel_rfl
/-! ### sortilege/sortilegeref23.All -/
def O27_3 (x3 : AV) (m : Mem) : St := ⟨[.any, .any, .any, x3, .any, .any, .any, .any, .any, .any, .any, .any, .any, .any, .any, .any, .any, .any], m⟩
noncomputable def L27_3 (x0 x3 x4 : AV) (m : Mem) (K : Ex → St → Option (AV × Mem)) : Option (AV × Mem) := loopW (execW cfg 27 (AP cfg) (AC cfg) (c1 (c1 (c2 (c1 (c2 (c2 (bodyOf f27)))))))) (cfg.mask 27 (some 3)) ⟨[x0, .any, .any, x3, x4, .any, .any, .any, .any, .any, .any, .any, .any, .any, .any, .any, .any, .any], m⟩ K
noncomputable abbrev K27_3_0 (K : Ex → St → Option (AV × Mem)) : Ex → St → Option (AV × Mem) := seqK (fun st => execW cfg 27 (AP cfg) (AC cfg) (c2 (c2 (c2 (bodyOf f27)))) st K) K
noncomputable abbrev K27_3_1 (K : Ex → St → Option (AV × Mem)) : Ex → St → Option (AV × Mem) := blockK 0 (K27_3_0 K)
noncomputable abbrev K27_3 (K : Ex → St → Option (AV × Mem)) : Ex → St → Option (AV × Mem) := (K27_3_1 K)
theorem T27 (a0 : AV) (m : Mem) : AC cfg 27 [a0] m =
  L27_3 a0 (.lst none true .full []) (.int .i64 0) m (K27_3 (finK cfg.P f27.results.toList)) :=
(AC_eq cfg 27 [a0] m (fn := f27) (c := bodyOf f27) at27 rfl).trans (by kernel_rfl)
theorem L27_3_eq (x0 x3 x4 : AV) (m : Mem) (K : Ex → St → Option (AV × Mem)) : L27_3 x0 x3 x4 m K =
  (pcall (AP cfg) none m 16 [x0, (.int .i64 1048576)]).bind fun r1 =>
  (binA .other .lss x4 r1.1).bind fun v2 =>
  ifA v2 (
  (AC cfg 41 [x0, x4] r1.2).bind fun r3 =>
  (buildSliceA none [r3.1]).bind fun v4 =>
  (appA none true 22 none 24 r3.2 x3 v4).bind fun r5 =>
  (binA .other .add x4 (.int .i64 1)).bind fun v6 =>
  L27_3 x0 r5.1 v6 r5.2 K) (
  K (.exit 0) (O27_3 x3 r1.2)) :=
(loopW_eq (execW_lin _) _ _ _).trans (by kernel_rfl)
theorem K27_3_x0 (x3 : AV) (m : Mem) : K27_3 (finK cfg.P f27.results.toList) (.exit 0) (O27_3 x3 m) =
  some (x3, m) := by kernel_rfl
/-! ### sortilege/sortilegeref23.Assignment -/
def O41_3 (x5 : AV) (m : Mem) : St := ⟨[.any, .any, .any, .any, .any, x5, .any, .any, .any, .any, .any, .any, .any, .any, .any, .any, .any, .any, .any, .any, .any, .any, .any, .any, .any, .any, .any, .any, .any, .any, .any, .any, .any], m⟩
noncomputable def L41_3 (x0 x1 x5 x6 : AV) (m : Mem) (K : Ex → St → Option (AV × Mem)) : Option (AV × Mem) := loopW (execW cfg 41 (AP cfg) (AC cfg) (c1 (c1 (c2 (c1 (c2 (c2 (bodyOf f41)))))))) (cfg.mask 41 (some 3)) ⟨[x0, x1, .any, .any, .any, x5, x6, .any, .any, .any, .any, .any, .any, .any, .any, .any, .any, .any, .any, .any, .any, .any, .any, .any, .any, .any, .any, .any, .any, .any, .any, .any, .any], m⟩ K
noncomputable abbrev K41_3_0 (K : Ex → St → Option (AV × Mem)) : Ex → St → Option (AV × Mem) := seqK (fun st => execW cfg 41 (AP cfg) (AC cfg) (c2 (c2 (c2 (bodyOf f41)))) st K) K
noncomputable abbrev K41_3_1 (K : Ex → St → Option (AV × Mem)) : Ex → St → Option (AV × Mem) := blockK 0 (K41_3_0 K)
noncomputable abbrev K41_3 (K : Ex → St → Option (AV × Mem)) : Ex → St → Option (AV × Mem) := (K41_3_1 K)
theorem T41 (a0 a1 : AV) (m : Mem) : AC cfg 41 [a0, a1] m =
  (lenA false a0).bind fun v1 =>
  (makeA none 3 none (.int .i64 0) 8 m v1 v1).bind fun r2 =>
  (lenA false a0).bind fun v3 =>
  (binA .other .sub v3 (.int .i64 1)).bind fun v4 =>
  L41_3 a0 a1 r2.1 v4 r2.2 (K41_3 (finK cfg.P f41.results.toList)) :=
(AC_eq cfg 41 [a0, a1] m (fn := f41) (c := bodyOf f41) at41 rfl).trans (by kernel_rfl)
theorem L41_3_eq (x0 x1 x5 x6 : AV) (m : Mem) (K : Ex → St → Option (AV × Mem)) : L41_3 x0 x1 x5 x6 m K =
  (binA .other .geq x6 (.int .i64 0)).bind fun v1 =>
  ifA v1 (
  (indexAddrA none x0 x6).bind fun v2 =>
  (loadA none m v2).bind fun v3 =>
  (binA .other .rem x1 v3).bind fun v4 =>
  (indexAddrA none x5 x6).bind fun v5 =>
  (storeA none m v5 v4).bind fun m6 =>
  (indexAddrA none x0 x6).bind fun v7 =>
  (loadA none m6 v7).bind fun v8 =>
  (binA .other .quo x1 v8).bind fun v9 =>
  (binA .other .sub x6 (.int .i64 1)).bind fun v10 =>
  L41_3 x0 v9 x5 v10 m6 K) (
  K (.exit 0) (O41_3 x5 m)) :=
(loopW_eq (execW_lin _) _ _ _).trans (by kernel_rfl)
theorem K41_3_x0 (x5 : AV) (m : Mem) : K41_3 (finK cfg.P f41.results.toList) (.exit 0) (O41_3 x5 m) =
  some (x5, m) := by kernel_rfl
/-! ### sortilege/sortilegeref23.Number -/
def O28_3 (x5 : AV) (m : Mem) : St := ⟨[.any, .any, .any, .any, .any, x5, .any, .any, .any, .any, .any, .any, .any, .any, .any, .any, .any, .any, .any, .any, .any, .any, .any, .any, .any], m⟩
noncomputable def L28_3 (x0 x1 x5 x8 x9 : AV) (m : Mem) (K : Ex → St → Option (AV × Mem)) : Option (AV × Mem) := loopW (execW cfg 28 (AP cfg) (AC cfg) (c1 (c1 (c2 (c1 (c2 (c2 (bodyOf f28)))))))) (cfg.mask 28 (some 3)) ⟨[x0, x1, .any, .any, .any, x5, .any, .any, x8, x9, .any, .any, .any, .any, .any, .any, .any, .any, .any, .any, .any, .any, .any, .any, .any], m⟩ K
noncomputable abbrev K28_3_0 (K : Ex → St → Option (AV × Mem)) : Ex → St → Option (AV × Mem) := seqK (fun st => execW cfg 28 (AP cfg) (AC cfg) (c2 (c2 (c2 (bodyOf f28)))) st K) K
noncomputable abbrev K28_3_1 (K : Ex → St → Option (AV × Mem)) : Ex → St → Option (AV × Mem) := blockK 0 (K28_3_0 K)
noncomputable abbrev K28_3 (K : Ex → St → Option (AV × Mem)) : Ex → St → Option (AV × Mem) := (K28_3_1 K)
theorem T28 (a0 a1 : AV) (m : Mem) : AC cfg 28 [a0, a1] m =
  (lenA false a0).bind fun v1 =>
  L28_3 a0 a1 (.int .i64 0) v1 (.int .i64 0) m (K28_3 (finK cfg.P f28.results.toList)) :=
(AC_eq cfg 28 [a0, a1] m (fn := f28) (c := bodyOf f28) at28 rfl).trans (by kernel_rfl)
theorem L28_3_eq (x0 x1 x5 x8 x9 : AV) (m : Mem) (K : Ex → St → Option (AV × Mem)) : L28_3 x0 x1 x5 x8 x9 m K =
  (binA .other .lss x9 x8).bind fun v1 =>
  ifA v1 (
  (indexAddrA none x0 x9).bind fun v2 =>
  (loadA none m v2).bind fun v3 =>
  (binA .other .mul x5 v3).bind fun v4 =>
  (indexAddrA none x1 x9).bind fun v5 =>
  (loadA none m v5).bind fun v6 =>
  (binA .other .add v4 v6).bind fun v7 =>
  (binA .other .add x9 (.int .i64 1)).bind fun v8 =>
  L28_3 x0 x1 v7 x8 v8 m K) (
  K (.exit 0) (O28_3 x5 m)) :=
(loopW_eq (execW_lin _) _ _ _).trans (by kernel_rfl)
theorem K28_3_x0 (x5 : AV) (m : Mem) : K28_3 (finK cfg.P f28.results.toList) (.exit 0) (O28_3 x5 m) =
  some (x5, m) := by kernel_rfl
/-! ### sortilege/sortilegeref23.sameNode -/
def O44_4 (m : Mem) : St := ⟨[.any, .any, .any, .any, .any, .any, .any, .any, .any, .any, .any, .any, .any, .any, .any, .any, .any, .any, .any, .any, .any, .any, .any, .any, .any, .any, .any, .any, .any, .any, .any, .any, .any, .any, .any, .any, .any, .any, .any, .any, .any, .any, .any, .any, .any], m⟩
def R44_4 (x4 : AV) (m : Mem) : St := ⟨[.any, .any, .any, .any, x4, .any, .any, .any, .any, .any, .any, .any, .any, .any, .any, .any, .any, .any, .any, .any, .any, .any, .any, .any, .any, .any, .any, .any, .any, .any, .any, .any, .any, .any, .any, .any, .any, .any, .any, .any, .any, .any, .any, .any, .any], m⟩
noncomputable def L44_4 (x2 x3 x29 x30 : AV) (m : Mem) (K : Ex → St → Option (AV × Mem)) : Option (AV × Mem) := loopW (execW cfg 44 (AP cfg) (AC cfg) (c1 (c1 (c2 (c1 (c2 (c2 (bodyOf f44)))))))) (cfg.mask 44 (some 4)) ⟨[.any, .any, x2, x3, .any, .any, .any, .any, .any, .any, .any, .any, .any, .any, .any, .any, .any, .any, .any, .any, .any, .any, .any, .any, .any, .any, .any, .any, .any, x29, x30, .any, .any, .any, .any, .any, .any, .any, .any, .any, .any, .any, .any, .any, .any], m⟩ K
noncomputable abbrev K44_4_0 (K : Ex → St → Option (AV × Mem)) : Ex → St → Option (AV × Mem) := seqK (fun st => execW cfg 44 (AP cfg) (AC cfg) (c2 (c2 (c2 (bodyOf f44)))) st K) K
noncomputable abbrev K44_4_1 (K : Ex → St → Option (AV × Mem)) : Ex → St → Option (AV × Mem) := blockK 0 (K44_4_0 K)
noncomputable abbrev K44_4 (K : Ex → St → Option (AV × Mem)) : Ex → St → Option (AV × Mem) := (K44_4_1 K)
theorem T44 (a0 a1 : AV) (m : Mem) : AC cfg 44 [a0, a1] m =
  (boxA none (some 3) m a0).bind fun r1 =>
  (boxA none (some 3) r1.2 a1).bind fun r2 =>
  (fieldAddrA 0 r1.1).bind fun v3 =>
  (loadA none r2.2 v3).bind fun v4 =>
  (fieldAddrA 0 r2.1).bind fun v5 =>
  (loadA none r2.2 v5).bind fun v6 =>
  (binA .other .neq v4 v6).bind fun v7 =>
  ifA v7 (
  some ((.bool false), r2.2)) (
  (fieldAddrA 2 r1.1).bind fun v8 =>
  (loadA none r2.2 v8).bind fun v9 =>
  (fieldAddrA 2 r2.1).bind fun v10 =>
  (loadA none r2.2 v10).bind fun v11 =>
  (binA .other .neq v9 v11).bind fun v12 =>
  ifA v12 (
  some ((.bool false), r2.2)) (
  (fieldAddrA 1 r1.1).bind fun v13 =>
  (loadA none r2.2 v13).bind fun v14 =>
  (lenA false v14).bind fun v15 =>
  (fieldAddrA 1 r2.1).bind fun v16 =>
  (loadA none r2.2 v16).bind fun v17 =>
  (lenA false v17).bind fun v18 =>
  (binA .other .neq v15 v18).bind fun v19 =>
  ifA v19 (
  some ((.bool false), r2.2)) (
  (fieldAddrA 1 r1.1).bind fun v20 =>
  (loadA none r2.2 v20).bind fun v21 =>
  (lenA false v21).bind fun v22 =>
  L44_4 r1.1 r2.1 v22 (.int .i64 0) r2.2 (K44_4 (finK cfg.P f44.results.toList))))) :=
(AC_eq cfg 44 [a0, a1] m (fn := f44) (c := bodyOf f44) at44 rfl).trans (by kernel_rfl)
theorem L44_4_eq (x2 x3 x29 x30 : AV) (m : Mem) (K : Ex → St → Option (AV × Mem)) : L44_4 x2 x3 x29 x30 m K =
  (binA .other .lss x30 x29).bind fun v1 =>
  ifA v1 (
  (fieldAddrA 1 x2).bind fun v2 =>
  (loadA none m v2).bind fun v3 =>
  (indexAddrA none v3 x30).bind fun v4 =>
  (loadA none m v4).bind fun v5 =>
  (fieldAddrA 1 x3).bind fun v6 =>
  (loadA none m v6).bind fun v7 =>
  (indexAddrA none v7 x30).bind fun v8 =>
  (loadA none m v8).bind fun v9 =>
  (binA .other .neq v5 v9).bind fun v10 =>
  ifA v10 (
  K .ret (R44_4 (.bool false) m)) (
  (binA .other .add x30 (.int .i64 1)).bind fun v11 =>
  L44_4 x2 x3 x29 v11 m K)) (
  K (.exit 0) (O44_4 m)) :=
(loopW_eq (execW_lin _) _ _ _).trans (by kernel_rfl)
theorem K44_4_x0 (m : Mem) : K44_4 (finK cfg.P f44.results.toList) (.exit 0) (O44_4  m) =
  some ((.bool true), m) := by kernel_rfl
theorem K44_4_ret (x4 : AV) (m : Mem) : K44_4 (finK cfg.P f44.results.toList) .ret (R44_4 x4 m) =
  some (x4, m) := by kernel_rfl
/-! ### sortilege/sortilegelaw23.sameInts -/
def O12_4 (m : Mem) : St := ⟨[.any, .any, .any, .any, .any, .any, .any, .any, .any, .any, .any, .any, .any, .any, .any, .any, .any, .any, .any, .any, .any, .any, .any, .any, .any, .any], m⟩
def R12_4 (x4 : AV) (m : Mem) : St := ⟨[.any, .any, .any, .any, x4, .any, .any, .any, .any, .any, .any, .any, .any, .any, .any, .any, .any, .any, .any, .any, .any, .any, .any, .any, .any, .any], m⟩
noncomputable def L12_4 (x0 x1 x12 x13 : AV) (m : Mem) (K : Ex → St → Option (AV × Mem)) : Option (AV × Mem) := loopW (execW cfg 12 (AP cfg) (AC cfg) (c1 (c1 (c2 (c1 (c2 (c2 (bodyOf f12)))))))) (cfg.mask 12 (some 4)) ⟨[x0, x1, .any, .any, .any, .any, .any, .any, .any, .any, .any, .any, x12, x13, .any, .any, .any, .any, .any, .any, .any, .any, .any, .any, .any, .any], m⟩ K
noncomputable abbrev K12_4_0 (K : Ex → St → Option (AV × Mem)) : Ex → St → Option (AV × Mem) := seqK (fun st => execW cfg 12 (AP cfg) (AC cfg) (c2 (c2 (c2 (bodyOf f12)))) st K) K
noncomputable abbrev K12_4_1 (K : Ex → St → Option (AV × Mem)) : Ex → St → Option (AV × Mem) := blockK 0 (K12_4_0 K)
noncomputable abbrev K12_4 (K : Ex → St → Option (AV × Mem)) : Ex → St → Option (AV × Mem) := (K12_4_1 K)
theorem T12 (a0 a1 : AV) (m : Mem) : AC cfg 12 [a0, a1] m =
  (lenA false a0).bind fun v1 =>
  (lenA false a1).bind fun v2 =>
  (binA .other .neq v1 v2).bind fun v3 =>
  ifA v3 (
  some ((.bool false), m)) (
  (lenA false a0).bind fun v4 =>
  L12_4 a0 a1 v4 (.int .i64 0) m (K12_4 (finK cfg.P f12.results.toList))) :=
(AC_eq cfg 12 [a0, a1] m (fn := f12) (c := bodyOf f12) at12 rfl).trans (by kernel_rfl)
theorem L12_4_eq (x0 x1 x12 x13 : AV) (m : Mem) (K : Ex → St → Option (AV × Mem)) : L12_4 x0 x1 x12 x13 m K =
  (binA .other .lss x13 x12).bind fun v1 =>
  ifA v1 (
  (indexAddrA none x0 x13).bind fun v2 =>
  (loadA none m v2).bind fun v3 =>
  (indexAddrA none x1 x13).bind fun v4 =>
  (loadA none m v4).bind fun v5 =>
  (binA .other .neq v3 v5).bind fun v6 =>
  ifA v6 (
  K .ret (R12_4 (.bool false) m)) (
  (binA .other .add x13 (.int .i64 1)).bind fun v7 =>
  L12_4 x0 x1 x12 v7 m K)) (
  K (.exit 0) (O12_4 m)) :=
(loopW_eq (execW_lin _) _ _ _).trans (by kernel_rfl)
theorem K12_4_x0 (m : Mem) : K12_4 (finK cfg.P f12.results.toList) (.exit 0) (O12_4  m) =
  some ((.bool true), m) := by kernel_rfl
theorem K12_4_ret (x4 : AV) (m : Mem) : K12_4 (finK cfg.P f12.results.toList) .ret (R12_4 x4 m) =
  some (x4, m) := by kernel_rfl
/-! ### sortilege/sortilegeref23.sameInts -/
def O43_4 (m : Mem) : St := ⟨[.any, .any, .any, .any, .any, .any, .any, .any, .any, .any, .any, .any, .any, .any, .any, .any, .any, .any, .any, .any, .any, .any, .any, .any, .any, .any], m⟩
def R43_4 (x4 : AV) (m : Mem) : St := ⟨[.any, .any, .any, .any, x4, .any, .any, .any, .any, .any, .any, .any, .any, .any, .any, .any, .any, .any, .any, .any, .any, .any, .any, .any, .any, .any], m⟩
noncomputable def L43_4 (x0 x1 x12 x13 : AV) (m : Mem) (K : Ex → St → Option (AV × Mem)) : Option (AV × Mem) := loopW (execW cfg 43 (AP cfg) (AC cfg) (c1 (c1 (c2 (c1 (c2 (c2 (bodyOf f43)))))))) (cfg.mask 43 (some 4)) ⟨[x0, x1, .any, .any, .any, .any, .any, .any, .any, .any, .any, .any, x12, x13, .any, .any, .any, .any, .any, .any, .any, .any, .any, .any, .any, .any], m⟩ K
noncomputable abbrev K43_4_0 (K : Ex → St → Option (AV × Mem)) : Ex → St → Option (AV × Mem) := seqK (fun st => execW cfg 43 (AP cfg) (AC cfg) (c2 (c2 (c2 (bodyOf f43)))) st K) K
noncomputable abbrev K43_4_1 (K : Ex → St → Option (AV × Mem)) : Ex → St → Option (AV × Mem) := blockK 0 (K43_4_0 K)
noncomputable abbrev K43_4 (K : Ex → St → Option (AV × Mem)) : Ex → St → Option (AV × Mem) := (K43_4_1 K)
theorem T43 (a0 a1 : AV) (m : Mem) : AC cfg 43 [a0, a1] m =
  (lenA false a0).bind fun v1 =>
  (lenA false a1).bind fun v2 =>
  (binA .other .neq v1 v2).bind fun v3 =>
  ifA v3 (
  some ((.bool false), m)) (
  (lenA false a0).bind fun v4 =>
  L43_4 a0 a1 v4 (.int .i64 0) m (K43_4 (finK cfg.P f43.results.toList))) :=
(AC_eq cfg 43 [a0, a1] m (fn := f43) (c := bodyOf f43) at43 rfl).trans (by kernel_rfl)
theorem L43_4_eq (x0 x1 x12 x13 : AV) (m : Mem) (K : Ex → St → Option (AV × Mem)) : L43_4 x0 x1 x12 x13 m K =
  (binA .other .lss x13 x12).bind fun v1 =>
  ifA v1 (
  (indexAddrA none x0 x13).bind fun v2 =>
  (loadA none m v2).bind fun v3 =>
  (indexAddrA none x1 x13).bind fun v4 =>
  (loadA none m v4).bind fun v5 =>
  (binA .other .neq v3 v5).bind fun v6 =>
  ifA v6 (
  K .ret (R43_4 (.bool false) m)) (
  (binA .other .add x13 (.int .i64 1)).bind fun v7 =>
  L43_4 x0 x1 x12 v7 m K)) (
  K (.exit 0) (O43_4 m)) :=
(loopW_eq (execW_lin _) _ _ _).trans (by kernel_rfl)
theorem K43_4_x0 (m : Mem) : K43_4 (finK cfg.P f43.results.toList) (.exit 0) (O43_4  m) =
  some ((.bool true), m) := by kernel_rfl
theorem K43_4_ret (x4 : AV) (m : Mem) : K43_4 (finK cfg.P f43.results.toList) .ret (R43_4 x4 m) =
  some (x4, m) := by kernel_rfl
/-! ### sortilege/sortilegeref23.alike -/
def O42_2 (m : Mem) : St := ⟨[.any, .any, .any, .any, .any, .any, .any, .any, .any, .any, .any, .any, .any, .any, .any, .any, .any], m⟩
def R42_2 (x2 : AV) (m : Mem) : St := ⟨[.any, .any, x2, .any, .any, .any, .any, .any, .any, .any, .any, .any, .any, .any, .any, .any, .any], m⟩
noncomputable def L42_2 (x0 x5 x6 x7 : AV) (m : Mem) (K : Ex → St → Option (AV × Mem)) : Option (AV × Mem) := loopW (execW cfg 42 (AP cfg) (AC cfg) (c1 (c1 (c2 (c1 (c2 (bodyOf f42))))))) (cfg.mask 42 (some 2)) ⟨[x0, .any, .any, .any, .any, x5, x6, x7, .any, .any, .any, .any, .any, .any, .any, .any, .any], m⟩ K
noncomputable abbrev K42_2_0 (K : Ex → St → Option (AV × Mem)) : Ex → St → Option (AV × Mem) := seqK (fun st => execW cfg 42 (AP cfg) (AC cfg) (c2 (c2 (bodyOf f42))) st K) K
noncomputable abbrev K42_2_1 (K : Ex → St → Option (AV × Mem)) : Ex → St → Option (AV × Mem) := blockK 0 (K42_2_0 K)
noncomputable abbrev K42_2 (K : Ex → St → Option (AV × Mem)) : Ex → St → Option (AV × Mem) := (K42_2_1 K)
theorem T42 (a0 : AV) (m : Mem) : AC cfg 42 [a0] m =
  (lenA false a0).bind fun v1 =>
  L42_2 a0 a0 v1 (.int .i64 0) m (K42_2 (finK cfg.P f42.results.toList)) :=
(AC_eq cfg 42 [a0] m (fn := f42) (c := bodyOf f42) at42 rfl).trans (by kernel_rfl)
theorem L42_2_eq (x0 x5 x6 x7 : AV) (m : Mem) (K : Ex → St → Option (AV × Mem)) : L42_2 x0 x5 x6 x7 m K =
  (binA .other .lss x7 x6).bind fun v1 =>
  ifA v1 (
  (indexAddrA none x5 x7).bind fun v2 =>
  (loadA none m v2).bind fun v3 =>
  (indexAddrA none x0 (.int .i64 0)).bind fun v4 =>
  (loadA none m v4).bind fun v5 =>
  (binA .other .neq v3 v5).bind fun v6 =>
  ifA v6 (
  K .ret (R42_2 (.bool false) m)) (
  (binA .other .add x7 (.int .i64 1)).bind fun v7 =>
  L42_2 x0 x5 x6 v7 m K)) (
  K (.exit 0) (O42_2 m)) :=
(loopW_eq (execW_lin _) _ _ _).trans (by kernel_rfl)
theorem K42_2_x0 (m : Mem) : K42_2 (finK cfg.P f42.results.toList) (.exit 0) (O42_2  m) =
  some ((.bool true), m) := by kernel_rfl
theorem K42_2_ret (x2 : AV) (m : Mem) : K42_2 (finK cfg.P f42.results.toList) .ret (R42_2 x2 m) =
  some (x2, m) := by kernel_rfl
/-! ### sortilege/sortilegeref23.List -/
theorem T15 (a0 a1 : AV) (m : Mem) : AC cfg 15 [a0, a1] m =
  (buildA (.agg [(.lst none true .full []), (.lst none true .full [])]) [(0, none, a0)]).bind fun v1 =>
  (boxA none (some 2) m v1).bind fun r2 =>
  (AC cfg 29 [r2.1, (.int .i64 0), a1] r2.2).bind fun r3 =>
  (nilA r2.1).bind fun v4 =>
  (fieldAddrA 1 v4).bind fun v5 =>
  (loadA none r3.2 v5).bind fun v6 =>
  some (v6, r3.2) :=
(AC_eq cfg 15 [a0, a1] m (fn := f15) (c := bodyOf f15) at15 rfl).trans (by kernel_rfl)
/-! ### (*sortilege/sortilegeref23.lister).place -/
def O29_7 (x0 x1 x2 x7 x8 x9 x10 : AV) (m : Mem) : St := ⟨[x0, x1, x2, .any, .any, .any, .any, x7, x8, x9, x10, .any, .any, .any, .any, .any, .any, .any, .any, .any, .any, .any, .any, .any, .any, .any, .any, .any, .any, .any, .any, .any, .any, .any, .any, .any, .any, .any, .any, .any, .any, .any, .any, .any, .any, .any, .any, .any, .any, .any, .any, .any, .any, .any, .any, .any, .any, .any, .any, .any, .any, .any, .any, .any, .any, .any, .any, .any, .any, .any, .any, .any, .any, .any, .any, .any, .any, .any, .any, .any, .any, .any, .any, .any, .any, .any, .any, .any, .any, .any, .any, .any, .any, .any, .any, .any, .any, .any, .any, .any, .any, .any, .any, .any, .any, .any, .any, .any, .any, .any, .any, .any, .any, .any, .any, .any, .any, .any, .any, .any, .any, .any, .any, .any, .any, .any, .any, .any], m⟩
noncomputable def L29_7 (x0 x1 x2 x7 x8 x9 x10 x11 : AV) (m : Mem) (K : Ex → St → Option (AV × Mem)) : Option (AV × Mem) := loopW (execW cfg 29 (AP cfg) (AC cfg) (c1 (c1 (c2 (c1 (c2 (c2 (c2 (c1 (c2 (c1 (c2 (c2 (bodyOf f29)))))))))))))) (cfg.mask 29 (some 7)) ⟨[x0, x1, x2, .any, .any, .any, .any, x7, x8, x9, x10, x11, .any, .any, .any, .any, .any, .any, .any, .any, .any, .any, .any, .any, .any, .any, .any, .any, .any, .any, .any, .any, .any, .any, .any, .any, .any, .any, .any, .any, .any, .any, .any, .any, .any, .any, .any, .any, .any, .any, .any, .any, .any, .any, .any, .any, .any, .any, .any, .any, .any, .any, .any, .any, .any, .any, .any, .any, .any, .any, .any, .any, .any, .any, .any, .any, .any, .any, .any, .any, .any, .any, .any, .any, .any, .any, .any, .any, .any, .any, .any, .any, .any, .any, .any, .any, .any, .any, .any, .any, .any, .any, .any, .any, .any, .any, .any, .any, .any, .any, .any, .any, .any, .any, .any, .any, .any, .any, .any, .any, .any, .any, .any, .any, .any, .any, .any, .any], m⟩ K
def O29_14 (x0 x7 : AV) (m : Mem) : St := ⟨[x0, .any, .any, .any, .any, .any, .any, x7, .any, .any, .any, .any, .any, .any, .any, .any, .any, .any, .any, .any, .any, .any, .any, .any, .any, .any, .any, .any, .any, .any, .any, .any, .any, .any, .any, .any, .any, .any, .any, .any, .any, .any, .any, .any, .any, .any, .any, .any, .any, .any, .any, .any, .any, .any, .any, .any, .any, .any, .any, .any, .any, .any, .any, .any, .any, .any, .any, .any, .any, .any, .any, .any, .any, .any, .any, .any, .any, .any, .any, .any, .any, .any, .any, .any, .any, .any, .any, .any, .any, .any, .any, .any, .any, .any, .any, .any, .any, .any, .any, .any, .any, .any, .any, .any, .any, .any, .any, .any, .any, .any, .any, .any, .any, .any, .any, .any, .any, .any, .any, .any, .any, .any, .any, .any, .any, .any, .any, .any], m⟩
noncomputable def L29_14 (x0 x1 x2 x7 x8 x12 : AV) (m : Mem) (K : Ex → St → Option (AV × Mem)) : Option (AV × Mem) := loopW (execW cfg 29 (AP cfg) (AC cfg) (c1 (c1 (c2 (c2 (c2 (c2 (c2 (c2 (c2 (c1 (c2 (c1 (c2 (c2 (bodyOf f29)))))))))))))))) (cfg.mask 29 (some 14)) ⟨[x0, x1, x2, .any, .any, .any, .any, x7, x8, .any, .any, .any, x12, .any, .any, .any, .any, .any, .any, .any, .any, .any, .any, .any, .any, .any, .any, .any, .any, .any, .any, .any, .any, .any, .any, .any, .any, .any, .any, .any, .any, .any, .any, .any, .any, .any, .any, .any, .any, .any, .any, .any, .any, .any, .any, .any, .any, .any, .any, .any, .any, .any, .any, .any, .any, .any, .any, .any, .any, .any, .any, .any, .any, .any, .any, .any, .any, .any, .any, .any, .any, .any, .any, .any, .any, .any, .any, .any, .any, .any, .any, .any, .any, .any, .any, .any, .any, .any, .any, .any, .any, .any, .any, .any, .any, .any, .any, .any, .any, .any, .any, .any, .any, .any, .any, .any, .any, .any, .any, .any, .any, .any, .any, .any, .any, .any, .any, .any], m⟩ K
def O29_18 (x0 x7 : AV) (m : Mem) : St := ⟨[x0, .any, .any, .any, .any, .any, .any, x7, .any, .any, .any, .any, .any, .any, .any, .any, .any, .any, .any, .any, .any, .any, .any, .any, .any, .any, .any, .any, .any, .any, .any, .any, .any, .any, .any, .any, .any, .any, .any, .any, .any, .any, .any, .any, .any, .any, .any, .any, .any, .any, .any, .any, .any, .any, .any, .any, .any, .any, .any, .any, .any, .any, .any, .any, .any, .any, .any, .any, .any, .any, .any, .any, .any, .any, .any, .any, .any, .any, .any, .any, .any, .any, .any, .any, .any, .any, .any, .any, .any, .any, .any, .any, .any, .any, .any, .any, .any, .any, .any, .any, .any, .any, .any, .any, .any, .any, .any, .any, .any, .any, .any, .any, .any, .any, .any, .any, .any, .any, .any, .any, .any, .any, .any, .any, .any, .any, .any, .any], m⟩
def R29_18 (x6 : AV) (m : Mem) : St := ⟨[.any, .any, .any, .any, .any, .any, x6, .any, .any, .any, .any, .any, .any, .any, .any, .any, .any, .any, .any, .any, .any, .any, .any, .any, .any, .any, .any, .any, .any, .any, .any, .any, .any, .any, .any, .any, .any, .any, .any, .any, .any, .any, .any, .any, .any, .any, .any, .any, .any, .any, .any, .any, .any, .any, .any, .any, .any, .any, .any, .any, .any, .any, .any, .any, .any, .any, .any, .any, .any, .any, .any, .any, .any, .any, .any, .any, .any, .any, .any, .any, .any, .any, .any, .any, .any, .any, .any, .any, .any, .any, .any, .any, .any, .any, .any, .any, .any, .any, .any, .any, .any, .any, .any, .any, .any, .any, .any, .any, .any, .any, .any, .any, .any, .any, .any, .any, .any, .any, .any, .any, .any, .any, .any, .any, .any, .any, .any, .any], m⟩
noncomputable def L29_18 (x0 x7 x100 x101 x102 : AV) (m : Mem) (K : Ex → St → Option (AV × Mem)) : Option (AV × Mem) := loopW (execW cfg 29 (AP cfg) (AC cfg) (c1 (c1 (c2 (c1 (c2 (c2 (c2 (bodyOf f29))))))))) (cfg.mask 29 (some 18)) ⟨[x0, .any, .any, .any, .any, .any, .any, x7, .any, .any, .any, .any, .any, .any, .any, .any, .any, .any, .any, .any, .any, .any, .any, .any, .any, .any, .any, .any, .any, .any, .any, .any, .any, .any, .any, .any, .any, .any, .any, .any, .any, .any, .any, .any, .any, .any, .any, .any, .any, .any, .any, .any, .any, .any, .any, .any, .any, .any, .any, .any, .any, .any, .any, .any, .any, .any, .any, .any, .any, .any, .any, .any, .any, .any, .any, .any, .any, .any, .any, .any, .any, .any, .any, .any, .any, .any, .any, .any, .any, .any, .any, .any, .any, .any, .any, .any, .any, .any, .any, .any, x100, x101, x102, .any, .any, .any, .any, .any, .any, .any, .any, .any, .any, .any, .any, .any, .any, .any, .any, .any, .any, .any, .any, .any, .any, .any, .any, .any], m⟩ K
noncomputable abbrev K29_7_0 (K : Ex → St → Option (AV × Mem)) : Ex → St → Option (AV × Mem) := seqK (fun st => execW cfg 29 (AP cfg) (AC cfg) (c2 (c2 (c2 (bodyOf f29)))) st K) K
noncomputable abbrev K29_7_1 (K : Ex → St → Option (AV × Mem)) : Ex → St → Option (AV × Mem) := seqK (fun st => execW cfg 29 (AP cfg) (AC cfg) (c2 (c2 (c2 (c2 (c1 (c2 (c1 (c2 (c2 (bodyOf f29)))))))))) st (K29_7_0 K)) (K29_7_0 K)
noncomputable abbrev K29_7_2 (K : Ex → St → Option (AV × Mem)) : Ex → St → Option (AV × Mem) := blockK 0 (K29_7_1 K)
noncomputable abbrev K29_7 (K : Ex → St → Option (AV × Mem)) : Ex → St → Option (AV × Mem) := (K29_7_2 K)
noncomputable abbrev K29_18_0 (K : Ex → St → Option (AV × Mem)) : Ex → St → Option (AV × Mem) := seqK (fun st => execW cfg 29 (AP cfg) (AC cfg) (c2 (c2 (c2 (c2 (bodyOf f29))))) st K) K
noncomputable abbrev K29_18_1 (K : Ex → St → Option (AV × Mem)) : Ex → St → Option (AV × Mem) := blockK 4 (K29_18_0 K)
noncomputable abbrev K29_18 (K : Ex → St → Option (AV × Mem)) : Ex → St → Option (AV × Mem) := (K29_18_1 K)
noncomputable abbrev K29_14_0 (K : Ex → St → Option (AV × Mem)) : Ex → St → Option (AV × Mem) := seqK (fun st => execW cfg 29 (AP cfg) (AC cfg) (c2 (c2 (c2 (bodyOf f29)))) st K) K
noncomputable abbrev K29_14_1 (K : Ex → St → Option (AV × Mem)) : Ex → St → Option (AV × Mem) := blockK 2 (K29_14_0 K)
noncomputable abbrev K29_14 (K : Ex → St → Option (AV × Mem)) : Ex → St → Option (AV × Mem) := (K29_14_1 K)
theorem T29 (a0 a1 a2 : AV) (m : Mem) : AC cfg 29 [a0, a1, a2] m =
  (indexAddrA none a2 (.int .i64 0)).bind fun v1 =>
  (loadA none m v1).bind fun v2 =>
  (buildA (.agg [(.int .i64 0), (.lst none true .full []), (.int .i64 0)]) [(0, none, (.int .i64 (-1))), (2, none, v2)]).bind fun v3 =>
  (storeA (some 3) (newAt none m (.obj true [(.int .i64 0), (.lst none true .full []), (.int .i64 0)])).2 (.ptr (newAt none m .resv).1 0) v3).bind fun m4 =>
  (pcall (AP cfg) none m4 42 [a2]).bind fun r5 =>
  (unA .not r5.1).bind fun v6 =>
  ifA v6 (
  (lenA false a2).bind fun v7 =>
  (nilA a0).bind fun v8 =>
  (fieldAddrA 0 v8).bind fun v9 =>
  (loadA none r5.2 v9).bind fun v10 =>
  (indexAddrA none v10 a1).bind fun v11 =>
  (loadA none r5.2 v11).bind fun v12 =>
  (binA .other .quo v7 v12).bind fun v13 =>
  (sliceT none a2 none (some v13) none).bind fun v14 =>
  L29_7 a0 a1 a2 (.ptr (newAt none m .resv).1 0) v13 v14 (.bool true) (.int .i64 1) r5.2 (K29_7 (finK cfg.P f29.results.toList))) (
  (nilA a0).bind fun v15 =>
  (fieldAddrA 1 v15).bind fun v16 =>
  (loadA none r5.2 v16).bind fun v17 =>
  (lenA false v17).bind fun v18 =>
  L29_18 a0 (.ptr (newAt none m .resv).1 0) v17 v18 (.int .i64 0) r5.2 (K29_18 (finK cfg.P f29.results.toList))) :=
(AC_eq cfg 29 [a0, a1, a2] m (fn := f29) (c := bodyOf f29) at29 rfl).trans (by kernel_rfl)
theorem L29_7_eq (x0 x1 x2 x7 x8 x9 x10 x11 : AV) (m : Mem) (K : Ex → St → Option (AV × Mem)) : L29_7 x0 x1 x2 x7 x8 x9 x10 x11 m K =
  (nilA x0).bind fun v1 =>
  (fieldAddrA 0 v1).bind fun v2 =>
  (loadA none m v2).bind fun v3 =>
  (indexAddrA none v3 x1).bind fun v4 =>
  (loadA none m v4).bind fun v5 =>
  (binA .other .lss x11 v5).bind fun v6 =>
  ifA v6 (
  ifA x10 (
  (binA .other .mul x11 x8).bind fun v7 =>
  (binA .other .add x11 (.int .i64 1)).bind fun v8 =>
  (binA .other .mul v8 x8).bind fun v9 =>
  (sliceT none x2 (some v7) (some v9) none).bind fun v10 =>
  (pcall (AP cfg) none m 43 [v10, x9]).bind fun r11 =>
  (binA .other .add x11 (.int .i64 1)).bind fun v12 =>
  L29_7 x0 x1 x2 x7 x8 x9 r11.1 v12 r11.2 K) (
  (binA .other .add x11 (.int .i64 1)).bind fun v13 =>
  L29_7 x0 x1 x2 x7 x8 x9 (.bool false) v13 m K)) (
  K (.exit 0) (O29_7 x0 x1 x2 x7 x8 x9 x10 m)) :=
(loopW_eq (execW_lin _) _ _ _).trans (by kernel_rfl)
theorem L29_14_eq (x0 x1 x2 x7 x8 x12 : AV) (m : Mem) (K : Ex → St → Option (AV × Mem)) : L29_14 x0 x1 x2 x7 x8 x12 m K =
  (nilA x0).bind fun v1 =>
  (fieldAddrA 0 v1).bind fun v2 =>
  (loadA none m v2).bind fun v3 =>
  (indexAddrA none v3 x1).bind fun v4 =>
  (loadA none m v4).bind fun v5 =>
  (binA .other .lss x12 v5).bind fun v6 =>
  ifA v6 (
  (fieldAddrA 1 x7).bind fun v7 =>
  (loadA none m v7).bind fun v8 =>
  (binA .other .add x1 (.int .i64 1)).bind fun v9 =>
  (binA .other .mul x12 x8).bind fun v10 =>
  (binA .other .add x12 (.int .i64 1)).bind fun v11 =>
  (binA .other .mul v11 x8).bind fun v12 =>
  (sliceT none x2 (some v10) (some v12) none).bind fun v13 =>
  (AC cfg 29 [x0, v9, v13] m).bind fun r14 =>
  ifP ((loadA none r14.2 v7).bind (fun v => some (v, r14.2)) = some (v8, r14.2)) (
  (buildSliceA none [r14.1]).bind fun v15 =>
  (appA none false 3 none 8 r14.2 v8 v15).bind fun r16 =>
  (fieldAddrA 1 x7).bind fun v17 =>
  (storeA none r16.2 v17 r16.1).bind fun m18 =>
  (binA .other .add x12 (.int .i64 1)).bind fun v19 =>
  L29_14 x0 x1 x2 x7 x8 v19 m18 K)) (
  K (.exit 2) (O29_14 x0 x7 m)) :=
(loopW_eq (execW_lin _) _ _ _).trans (by kernel_rfl)
theorem L29_18_eq (x0 x7 x100 x101 x102 : AV) (m : Mem) (K : Ex → St → Option (AV × Mem)) : L29_18 x0 x7 x100 x101 x102 m K =
  (binA .other .lss x102 x101).bind fun v1 =>
  ifA v1 (
  (indexAddrA (some 3) x100 x102).bind fun v2 =>
  (loadA (some 3) m v2).bind fun v3 =>
  (storeA (some 3) (newAt none m (.obj true [(.int .i64 0), (.lst none true .full []), (.int .i64 0)])).2 (.ptr (newAt none m .resv).1 0) v3).bind fun m4 =>
  (loadA (some 3) m4 x7).bind fun v5 =>
  (loadA (some 3) m4 (.ptr (newAt none m .resv).1 0)).bind fun v6 =>
  (pcall (AP cfg) none m4 44 [v5, v6]).bind fun r7 =>
  ifA r7.1 (
  K .ret (R29_18 x102 r7.2)) (
  (binA .other .add x102 (.int .i64 1)).bind fun v8 =>
  L29_18 x0 x7 x100 x101 v8 r7.2 K)) (
  K (.exit 4) (O29_18 x0 x7 m)) :=
(loopW_eq (execW_lin _) _ _ _).trans (by kernel_rfl)
theorem K29_7_x0 (x0 x1 x2 x7 x8 x9 x10 : AV) (m : Mem) : K29_7 (finK cfg.P f29.results.toList) (.exit 0) (O29_7 x0 x1 x2 x7 x8 x9 x10 m) =
  ifA x10 (
  (binA .other .add x1 (.int .i64 1)).bind fun v1 =>
  (AC cfg 29 [x0, v1, x9] m).bind fun r2 =>
  some (r2.1, r2.2)) (
  (buildA (.agg [(.int .i64 0), (.lst none true .full []), (.int .i64 0)]) [(0, none, x1)]).bind fun v3 =>
  (storeA (some 3) m x7 v3).bind fun m4 =>
  L29_14 x0 x1 x2 x7 x8 (.int .i64 0) m4 (K29_14 (finK cfg.P f29.results.toList))) := by kernel_rfl
theorem K29_18_x4 (x0 x7 : AV) (m : Mem) : K29_18 (finK cfg.P f29.results.toList) (.exit 4) (O29_18 x0 x7 m) =
  (nilA x0).bind fun v1 =>
  (fieldAddrA 1 v1).bind fun v2 =>
  (loadA none (reserve m 1) v2).bind fun v3 =>
  (loadA (some 3) (reserve m 1) x7).bind fun v4 =>
  (buildSliceA (some 3) [v4]).bind fun v5 =>
  (appA (some m.length) false 71 (some 3) 40 (reserve m 1) v3 v5).bind fun r6 =>
  (nilA x0).bind fun v7 =>
  (fieldAddrA 1 v7).bind fun v8 =>
  (storeA none r6.2 v8 r6.1).bind fun m9 =>
  (nilA x0).bind fun v10 =>
  (fieldAddrA 1 v10).bind fun v11 =>
  (loadA none m9 v11).bind fun v12 =>
  (lenA false v12).bind fun v13 =>
  (binA .other .sub v13 (.int .i64 1)).bind fun v14 =>
  some (v14, m9) := by kernel_rfl
theorem K29_18_ret (x6 : AV) (m : Mem) : K29_18 (finK cfg.P f29.results.toList) .ret (R29_18 x6 m) =
  some (x6, m) := by kernel_rfl
theorem K29_14_x2 (x0 x7 : AV) (m : Mem) : K29_14 (finK cfg.P f29.results.toList) (.exit 2) (O29_14 x0 x7 m) =
  (nilA x0).bind fun v1 =>
  (fieldAddrA 1 v1).bind fun v2 =>
  (loadA none m v2).bind fun v3 =>
  (lenA false v3).bind fun v4 =>
  L29_18 x0 x7 v3 v4 (.int .i64 0) m (K29_18 (finK cfg.P f29.results.toList)) := by kernel_rfl
end Go.Ab

/- The laws' and the reference's small functions, by value. -/
set_option linter.unusedVariables false
set_option linter.unusedSimpArgs false
set_option linter.unusedSectionVars false
set_option maxRecDepth 100000
namespace Go.Ab
open Go.Proofs Go.Proofs.Tryd

/-! ### Arms -/
def armB (n : Int) : Bool := decide (1 ≤ n ∧ n ≤ 64)
def armsE (ns : List Int) : Int := if ns.length > 16 then 2 else if ns.all armB then 0 else 1
theorem W12 (z : Bool) (o : Own) (ns : List Int) (hl : ns.length ≤ 16) (m : Mem) (K : Ex → St → Option (AV × Mem)) : ∀ j i : Nat, i + j = ns.length → L5_4 (IA z o ns) (.int .i64 ns.length) (.int .i64 i) m K = if (ns.drop i).all armB then K (.exit 0) (O5_4 m) else K .ret (R5_4 (.int .i64 1) m)
  | 0, i, h => by
    rw [L5_4_eq, n_lss, Option.bind_some, ifA_dec, if_neg (by omega), List.drop_eq_nil_of_le (by omega)]; rfl
  | j + 1, i, h => by
    have hi : i < ns.length := by omega
    have ih := W12 z o ns hl m K j (i + 1) (by omega)
    rw [L5_4_eq, n_lss, Option.bind_some, ifA_dec, if_pos hi, idx_IA hi, Option.bind_some, loadA_one, Option.bind_some, binA_lss, Option.bind_some, ifA_dec, List.drop_eq_getElem_cons hi, List.all_cons]
    by_cases h1 : ns[i] < 1
    · rw [if_pos h1, show armB ns[i] = false from decide_eq_false (by omega)]; rfl
    · rw [if_neg h1, binA_gtr, Option.bind_some, ifA_dec]
      by_cases h2 : ns[i] > 64
      · rw [if_pos h2, show armB ns[i] = false from decide_eq_false (by omega)]; rfl
      · rw [if_neg h2, i_add1 (by omega), Option.bind_some, ih, show armB ns[i] = true from decide_eq_true (by omega), Bool.true_and]
theorem V12 (z : Bool) (o : Own) (ns : List Int) : AP cfg 5 [IA z o ns] = some (.int .i64 (armsE ns)) := by
  refine AP_of (m := []) (v := .int .i64 (armsE ns)) (l := []) ?_ rfl rfl
  unfold armsE
  rw [T5, len_IA, Option.bind_some, show ((16 : Int)) = ((16 : Nat) : Int) from rfl, n_gtr, Option.bind_some, ifA_dec]
  by_cases h : ns.length > 16
  · rw [if_pos h, if_pos h]
  · rw [if_neg h, if_neg h, Option.bind_some, show ((0 : Int)) = ((0 : Nat) : Int) from rfl, W12 z o ns (by omega) [] _ ns.length 0 (by omega), List.drop_zero]
    by_cases h2 : ns.all armB = true
    · rw [if_pos h2, if_pos h2, K5_4_x0]; rfl
    · rw [if_neg h2, if_neg h2, K5_4_ret]
theorem pc12 (z : Bool) (o : Own) (ns : List Int) (d : Option Nat) (m : Mem) : pcall (AP cfg) d m 5 [IA z o ns] = some (.int .i64 (armsE ns), m) := by
  rw [pcall1 (fz_IA z o ns), V12]; rfl
theorem armsE_ok {ns : List Int} (h : armsE ns = 0) : ns.length ≤ 16 ∧ ∀ a ∈ ns, 1 ≤ a ∧ a ≤ 64 := by
  unfold armsE at h
  split at h
  · cases h
  · split at h
    · rename_i h1 h2
      exact ⟨by omega, fun a ha => by have := List.all_eq_true.1 h2 a ha; exact of_decide_eq_true this⟩
    · cases h
/-! ### Places -/
def placesF (most : Int) : Int → List Int → Int
  | acc, [] => acc
  | acc, n :: l => if acc * n > most then 0 else placesF most (acc * n) l
theorem W27 (z : Bool) (o : Own) (ns : List Int) (hl : ns.length ≤ 16) (hb : ∀ a ∈ ns, 1 ≤ a ∧ a ≤ 64) (most : Int) (hm : 0 ≤ most ∧ most ≤ 1048576) (m : Mem) : ∀ (j i : Nat) (acc : Int), i + j = ns.length → 1 ≤ acc → acc ≤ most ∨ acc = 1 →
    L16_3 (.int .i64 most) (.int .i64 acc) (IA z o ns) (.int .i64 ns.length) (.int .i64 i) m (K16_3 (finK cfg.P f16.results.toList)) = some (.int .i64 (placesF most acc (ns.drop i)), m)
  | 0, i, acc, h, h1, h2 => by
    rw [L16_3_eq, n_lss, Option.bind_some, ifA_dec, if_neg (by omega), List.drop_eq_nil_of_le (by omega), K16_3_x0]; rfl
  | j + 1, i, acc, h, h1, h2 => by
    have hi : i < ns.length := by omega
    have ha := hb ns[i] (List.getElem_mem hi)
    have p1 : acc * ns[i] ≤ 1048576 * 64 := Int.mul_le_mul (by omega) ha.2 (by omega) (by omega)
    have p2 : 1 ≤ acc * ns[i] := by
      have := Int.mul_le_mul h1 ha.1 (by omega) (by omega)
      simpa using this
    rw [L16_3_eq, n_lss, Option.bind_some, ifA_dec, if_pos hi, idx_IA hi, Option.bind_some, loadA_one, Option.bind_some, binA_mul, Option.bind_some, wrap_i64 (by omega) (by omega), binA_gtr, Option.bind_some, ifA_dec, List.drop_eq_getElem_cons hi, placesF]
    by_cases h3 : acc * ns[i] > most
    · rw [if_pos h3, if_pos h3, K16_3_ret]
    · rw [if_neg h3, if_neg h3, i_add1 (by omega), Option.bind_some]
      exact W27 z o ns hl hb most hm m j (i + 1) _ (by omega) p2 (.inl (by omega))
theorem V27 (z : Bool) (o : Own) (ns : List Int) (hl : ns.length ≤ 16) (hb : ∀ a ∈ ns, 1 ≤ a ∧ a ≤ 64) (most : Int) (hm : 0 ≤ most ∧ most ≤ 1048576) : AP cfg 16 [IA z o ns, .int .i64 most] = some (.int .i64 (placesF most 1 ns)) := by
  refine AP_of (m := []) (v := .int .i64 (placesF most 1 ns)) (l := []) ?_ rfl rfl
  rw [T16, len_IA, Option.bind_some, show ((0 : Int)) = ((0 : Nat) : Int) from rfl, W27 z o ns hl hb most hm [] ns.length 0 1 (by omega) (by omega) (.inr rfl), List.drop_zero]
theorem pc27 (z : Bool) (o : Own) (ns : List Int) (hl : ns.length ≤ 16) (hb : ∀ a ∈ ns, 1 ≤ a ∧ a ≤ 64) (most : Int) (hm : 0 ≤ most ∧ most ≤ 1048576) (d : Option Nat) (m : Mem) : pcall (AP cfg) d m 16 [IA z o ns, .int .i64 most] = some (.int .i64 (placesF most 1 ns), m) := by
  rw [pcall2 (fz_IA z o ns) (fz_int _ _), V27 z _ ns hl hb most hm]; rfl
/-! ### few -/
theorem app_ints (m : Mem) (z : Bool) (o : Own) (ns : List Int) (hl : ns.length ≤ 1000000) : ∃ o' m', appA none false 3 none 8 m (.lst none false .full []) (IA z o ns) = some (IA false o' ns, m') ∧ Fr m m' [] ∧ (o' = .full ∧ ns = [] ∨ o' = .tok m.length 3) := by
  cases ns with
  | nil => exact ⟨.full, m, rfl, Fr.refl _ _, .inl ⟨rfl, rfl⟩⟩
  | cons n ns =>
    have hb : (0 + (ns.length + 1)) * 8 ≤ roomA := by unfold roomA; simp at hl; omega
    refine ⟨.tok m.length 3, m ++ [some (Ent.tok (0 + (ns.length + 1)) 1)], ?_, Fr.app m _ _, .inr rfl⟩
    simp only [appA, List.map_cons, List.length_nil, List.length_cons, List.length_map, hb, if_true, or_true, Bool.false_eq_true, if_false, newAt, List.nil_append, Sh.size]
    rfl
theorem slice_IA (z : Bool) (o : Own) (ns : List Int) (k : IntKind) (i : Nat) (h : i ≤ ns.length) : sliceT none (IA z o ns) none (some (.int k i)) none = some (IA z .no (ns.take i)) := by
  simp [sliceT, sliceA, boundA, h, List.map_take]
def goodArms (r : List Int) : Prop := armsE r = 0 → placesF 300 1 r ≠ 0
theorem W11 : ∀ (n : Nat) (r : List Int) (o : Own) (m : Mem), r.length = n → armsE r = 0 → ∃ o' r' m', L4_4 (IA false o r) m (K4_4 (finK cfg.P f4.results.toList)) = some (IA false o' r', m') ∧ armsE r' = 0 ∧ placesF 300 1 r' ≠ 0
  | 0, r, o, m, hn, hr => by
    obtain rfl : r = [] := List.eq_nil_of_length_eq_zero hn
    refine ⟨o, [], m, ?_, hr, by decide⟩
    rw [L4_4_eq, len_IA, Option.bind_some, binA_gtr, Option.bind_some, ifA_dec, if_neg (by simp), K4_4_x0]
  | n + 1, r, o, m, hn, hr => by
    obtain ⟨h1, h2⟩ := armsE_ok hr
    rw [L4_4_eq, len_IA, Option.bind_some, binA_gtr, Option.bind_some, ifA_dec, if_pos (by omega), pc27 _ _ _ h1 h2 300 (by omega), Option.bind_some, binA_eql, Option.bind_some, ifA_dec]
    by_cases hp : placesF 300 1 r = 0
    · rw [if_pos hp, Option.bind_some, i_sub1 (by omega) (by omega), Option.bind_some, slice_IA _ _ _ _ _ (by omega), Option.bind_some]
      refine W11 n (r.take (r.length - 1)) .no m (by rw [List.length_take]; omega) ?_
      unfold armsE
      rw [if_neg (by rw [List.length_take]; omega), if_pos]
      exact List.all_eq_true.2 fun a ha => decide_eq_true (h2 a (List.take_subset _ _ ha))
    · rw [if_neg hp, K4_4_x0]
      exact ⟨o, r, m, rfl, hr, hp⟩
theorem V11 (z : Bool) (o : Own) (ns : List Int) : ∃ o' r, AP cfg 4 [IA z o ns] = some (IA false o' r) ∧ goodArms r ∧ r.length ≤ 17 ∧ (o' = .no ∨ o' = .full) := by
  have key : ∃ o' r m', AC cfg 4 [IA z o ns] [] = some (IA false o' r, m') ∧ goodArms r ∧ r.length ≤ 17 := by
    have hmin : maxA false (.int .i64 ns.length) (.int .i64 17) = some (.int .i64 (min ns.length 17 : Nat)) := by
      simp only [maxA, if_true, Bool.false_eq_true, if_false]
      congr 2
      split <;> omega
    obtain ⟨o1, m1, ha, _, _⟩ := app_ints [] z .no (ns.take (min ns.length 17)) (by rw [List.length_take]; omega)
    have e0 : AC cfg 4 [IA z o ns] [] = ifA (.bool (decide (armsE (ns.take (min ns.length 17)) ≠ 0))) (some (IA false o1 (ns.take (min ns.length 17)), m1)) (L4_4 (IA false o1 (ns.take (min ns.length 17))) m1 (K4_4 (finK cfg.P f4.results.toList))) := by
      rw [T4, show buildSliceA none [] = some (.lst none false .full []) from rfl, Option.bind_some, len_IA, Option.bind_some, hmin, Option.bind_some, slice_IA _ _ _ _ _ (by omega), Option.bind_some, ha, Option.bind_some, pc12, Option.bind_some, binA_neq, Option.bind_some]
    rw [e0, ifA_dec]
    by_cases hz : armsE (ns.take (min ns.length 17)) ≠ 0
    · rw [if_pos hz]
      exact ⟨_, _, _, rfl, fun h => absurd h hz, by rw [List.length_take]; omega⟩
    · rw [if_neg hz]
      obtain ⟨o', r', m', e, h1, h2⟩ := W11 _ _ o1 m1 rfl (Decidable.not_not.1 hz)
      exact ⟨o', r', m', e, fun _ => h2, by have := (armsE_ok h1).1; omega⟩
  obtain ⟨o', r, m', e, h1, h2⟩ := key
  refine ⟨o'.fr, r, ?_, h1, h2, ?_⟩
  · unfold AP acallP
    rw [e, Option.bind_some, fz_IA false o' r m', Option.bind_some]
    rfl
  · cases o' <;> simp [Own.fr]
/-! ### Nodes of the reference: one, sameNode, SameList -/
/-- The kids as a row. -/
def kz (n : ND) : Bool := if n.var < 0 then true else false
def ko (n : ND) : Own := if n.var < 0 then .full else .no
theorem kids_IA {n : ND} (h : n.ok) : kidsA n = IA (kz n) (ko n) n.kids := by
  unfold kidsA kz ko
  split
  · rename_i hv
    rcases h with ⟨_, h2, _⟩ | ⟨h1, _⟩
    · rw [h2]; rfl
    · omega
  · rfl
theorem W60 {m : Mem} {b1 b2 : Nat} {a1 a2 c1 c2 : AV} {z1 z2 : Bool} {o1 o2 : Own} {k1 k2 : List Int} (hb1 : m.get b1 = some (Ent.obj true [a1, IA z1 o1 k1, c1])) (hb2 : m.get b2 = some (Ent.obj true [a2, IA z2 o2 k2, c2])) (hl : k1.length = k2.length) (hl2 : k1.length ≤ 100000) : ∀ j i : Nat, i + j = k1.length →
    L44_4 (.ptr b1 0) (.ptr b2 0) (.int .i64 k1.length) (.int .i64 i) m (K44_4 (finK cfg.P f44.results.toList)) = some (.bool (decide (k1.drop i = k2.drop i)), m)
  | 0, i, h => by
    rw [L44_4_eq, binA_lss, Option.bind_some, ifA_dec, if_neg (by omega), List.drop_eq_nil_of_le (by omega), List.drop_eq_nil_of_le (by omega), K44_4_x0]; rfl
  | j + 1, i, h => by
    have hi : i < k1.length := by omega
    have hi2 : i < k2.length := by omega
    have x1 := idx_IA (z := z1) (o := o1) (k := .i64) hi
    have x2 := idx_IA (z := z2) (o := o2) (k := .i64) hi2
    have ih := W60 hb1 hb2 hl hl2 j (i + 1) (by omega)
    rw [L44_4_eq, binA_lss, Option.bind_some, ifA_dec, if_pos (by omega)]
    repeat ((with_reducible (first | apply bs | apply bsy)); (focus (first | (simp (disch := (first | assumption | omega | (simp only [List.length_append, List.length_set, List.length_cons, List.length_nil]; first | done | omega))) only [List.all_cons, List.all_nil, Bool.and_true, Bool.and_self, beq_self_eq_true, resv1, List.length_map, ld_v3, ld_v1, binA_eql, binA_neq, binA_lss, binA_leq, binA_gtr, binA_geq, loadA_one, un_not, ld_ptr, st_ptr, putE1, objE_obj, Option.bind_some, cut1, cut3, cut4, nil_ptr, fa_ptr, g_lt, g_eq, g_sne, g_seq, new_n, box_n, List.getElem?_cons_zero, List.getElem?_cons_succ, ex0, ex1, Sh.size, cells_int, aok_int, cells_bool, aok_bool, cells_str, aok_str, cells_lst, aok_lst, cells_ptr, aok_ptr, cells_arr, aok_arr, cells_fn, aok_fn, cells_mref, aok_mref, cells_nilp, aok_nilp, cells_agg, shOk_n, shOk_s, lenA_lst, List.length_cons, List.length_nil, if_true, putAt, List.take_succ_cons, List.take_zero, List.drop_succ_cons, List.drop_zero, List.cons_append, List.nil_append, List.append_nil, Nat.zero_add, Nat.reduceAdd, Nat.reduceLeDiff, Nat.le_refl, List.drop_nil, List.take_nil, List.length_append, List.length_set, hb1, hb2, x1, x2]; first | done | rfl) | rfl)); try dsimp only)
    rw [ifA_dec, List.drop_eq_getElem_cons hi, List.drop_eq_getElem_cons hi2]
    by_cases he : k1[i] = k2[i]
    · rw [if_neg (by simpa using he), i_add1 (by omega), Option.bind_some, ih]
      congr 3
      exact decide_eq_decide.2 (by rw [he]; exact ⟨fun e => by rw [e], fun e => (List.cons.inj e).2⟩)
    · rw [if_pos he, K44_4_ret]
      congr 3
      exact (decide_eq_false (fun e => he (List.cons.inj e).1)).symm
theorem V60 {a b : ND} (ha : a.ok) (hb : b.ok) : AP cfg 44 [a.av, b.av] = some (.bool (decide (a = b))) := by
  have hav : a.av = .agg [.int .i64 a.var, IA (kz a) (ko a) a.kids, .int .i64 a.leaf] := by rw [ND.av, kids_IA ha]
  have hbv : b.av = .agg [.int .i64 b.var, IA (kz b) (ko b) b.kids, .int .i64 b.leaf] := by rw [ND.av, kids_IA hb]
  have hl : ∀ {n : ND}, n.ok → n.kids.length ≤ 64 := fun h => by
    rcases h with ⟨_, h2, _⟩ | ⟨_, _, _, _, h5⟩
    · rw [h2]; simp
    · exact h5
  have l1 := hl ha; have l2 := hl hb
  rw [hav, hbv]
  have key : AC cfg 44 [.agg [.int .i64 a.var, IA (kz a) (ko a) a.kids, .int .i64 a.leaf], .agg [.int .i64 b.var, IA (kz b) (ko b) b.kids, .int .i64 b.leaf]] [] = some (.bool (decide (a = b)), [some (Ent.obj true [.int .i64 a.var, IA (kz a) (ko a) a.kids, .int .i64 a.leaf]), some (Ent.obj true [.int .i64 b.var, IA (kz b) (ko b) b.kids, .int .i64 b.leaf])]) := by
    rw [T44]
    repeat ((with_reducible (first | apply bs | apply bsy)); (focus (first | (simp (disch := (first | assumption | omega | (simp only [List.length_append, List.length_set, List.length_cons, List.length_nil]; first | done | omega))) only [List.all_cons, List.all_nil, Bool.and_true, Bool.and_self, beq_self_eq_true, resv1, List.length_map, ld_v3, ld_v1, binA_eql, binA_neq, binA_lss, binA_leq, binA_gtr, binA_geq, loadA_one, un_not, ld_ptr, st_ptr, putE1, objE_obj, Option.bind_some, cut1, cut3, cut4, nil_ptr, fa_ptr, g_lt, g_eq, g_sne, g_seq, new_n, box_n, List.getElem?_cons_zero, List.getElem?_cons_succ, ex0, ex1, Sh.size, cells_int, aok_int, cells_bool, aok_bool, cells_str, aok_str, cells_lst, aok_lst, cells_ptr, aok_ptr, cells_arr, aok_arr, cells_fn, aok_fn, cells_mref, aok_mref, cells_nilp, aok_nilp, cells_agg, shOk_n, shOk_s, lenA_lst, List.length_cons, List.length_nil, if_true, putAt, List.take_succ_cons, List.take_zero, List.drop_succ_cons, List.drop_zero, List.cons_append, List.nil_append, List.append_nil, Nat.zero_add, Nat.reduceAdd, Nat.reduceLeDiff, Nat.le_refl, List.drop_nil, List.take_nil, List.length_append, List.length_set, box_nd3, len_IA]; first | done | rfl) | rfl)); try dsimp only)
    rw [ifA_dec]
    by_cases h1 : a.var = b.var
    · rw [if_neg (by simpa using h1)]
      repeat ((with_reducible (first | apply bs | apply bsy)); (focus (first | (simp (disch := (first | assumption | omega | (simp only [List.length_append, List.length_set, List.length_cons, List.length_nil]; first | done | omega))) only [List.all_cons, List.all_nil, Bool.and_true, Bool.and_self, beq_self_eq_true, resv1, List.length_map, ld_v3, ld_v1, binA_eql, binA_neq, binA_lss, binA_leq, binA_gtr, binA_geq, loadA_one, un_not, ld_ptr, st_ptr, putE1, objE_obj, Option.bind_some, cut1, cut3, cut4, nil_ptr, fa_ptr, g_lt, g_eq, g_sne, g_seq, new_n, box_n, List.getElem?_cons_zero, List.getElem?_cons_succ, ex0, ex1, Sh.size, cells_int, aok_int, cells_bool, aok_bool, cells_str, aok_str, cells_lst, aok_lst, cells_ptr, aok_ptr, cells_arr, aok_arr, cells_fn, aok_fn, cells_mref, aok_mref, cells_nilp, aok_nilp, cells_agg, shOk_n, shOk_s, lenA_lst, List.length_cons, List.length_nil, if_true, putAt, List.take_succ_cons, List.take_zero, List.drop_succ_cons, List.drop_zero, List.cons_append, List.nil_append, List.append_nil, Nat.zero_add, Nat.reduceAdd, Nat.reduceLeDiff, Nat.le_refl, List.drop_nil, List.take_nil, List.length_append, List.length_set, box_nd3, len_IA]; first | done | rfl) | rfl)); try dsimp only)
      rw [ifA_dec]
      by_cases h2 : a.leaf = b.leaf
      · rw [if_neg (by simpa using h2)]
        repeat ((with_reducible (first | apply bs | apply bsy)); (focus (first | (simp (disch := (first | assumption | omega | (simp only [List.length_append, List.length_set, List.length_cons, List.length_nil]; first | done | omega))) only [List.all_cons, List.all_nil, Bool.and_true, Bool.and_self, beq_self_eq_true, resv1, List.length_map, ld_v3, ld_v1, binA_eql, binA_neq, binA_lss, binA_leq, binA_gtr, binA_geq, loadA_one, un_not, ld_ptr, st_ptr, putE1, objE_obj, Option.bind_some, cut1, cut3, cut4, nil_ptr, fa_ptr, g_lt, g_eq, g_sne, g_seq, new_n, box_n, List.getElem?_cons_zero, List.getElem?_cons_succ, ex0, ex1, Sh.size, cells_int, aok_int, cells_bool, aok_bool, cells_str, aok_str, cells_lst, aok_lst, cells_ptr, aok_ptr, cells_arr, aok_arr, cells_fn, aok_fn, cells_mref, aok_mref, cells_nilp, aok_nilp, cells_agg, shOk_n, shOk_s, lenA_lst, List.length_cons, List.length_nil, if_true, putAt, List.take_succ_cons, List.take_zero, List.drop_succ_cons, List.drop_zero, List.cons_append, List.nil_append, List.append_nil, Nat.zero_add, Nat.reduceAdd, Nat.reduceLeDiff, Nat.le_refl, List.drop_nil, List.take_nil, List.length_append, List.length_set, box_nd3, len_IA]; first | done | rfl) | rfl)); try dsimp only)
        rw [ifA_dec]
        by_cases h3 : a.kids.length = b.kids.length
        · rw [if_neg (by omega)]
          repeat ((with_reducible (first | apply bs | apply bsy)); (focus (first | (simp (disch := (first | assumption | omega | (simp only [List.length_append, List.length_set, List.length_cons, List.length_nil]; first | done | omega))) only [List.all_cons, List.all_nil, Bool.and_true, Bool.and_self, beq_self_eq_true, resv1, List.length_map, ld_v3, ld_v1, binA_eql, binA_neq, binA_lss, binA_leq, binA_gtr, binA_geq, loadA_one, un_not, ld_ptr, st_ptr, putE1, objE_obj, Option.bind_some, cut1, cut3, cut4, nil_ptr, fa_ptr, g_lt, g_eq, g_sne, g_seq, new_n, box_n, List.getElem?_cons_zero, List.getElem?_cons_succ, ex0, ex1, Sh.size, cells_int, aok_int, cells_bool, aok_bool, cells_str, aok_str, cells_lst, aok_lst, cells_ptr, aok_ptr, cells_arr, aok_arr, cells_fn, aok_fn, cells_mref, aok_mref, cells_nilp, aok_nilp, cells_agg, shOk_n, shOk_s, lenA_lst, List.length_cons, List.length_nil, if_true, putAt, List.take_succ_cons, List.take_zero, List.drop_succ_cons, List.drop_zero, List.cons_append, List.nil_append, List.append_nil, Nat.zero_add, Nat.reduceAdd, Nat.reduceLeDiff, Nat.le_refl, List.drop_nil, List.take_nil, List.length_append, List.length_set, box_nd3, len_IA]; first | done | rfl) | rfl)); try dsimp only)
          have w := W60 (m := [some (Ent.obj true [.int .i64 a.var, IA (kz a) (ko a) a.kids, .int .i64 a.leaf])] ++ [some (Ent.obj true [.int .i64 b.var, IA (kz b) (ko b) b.kids, .int .i64 b.leaf])]) (b1 := 0) (b2 := 1) rfl rfl h3 (by omega) a.kids.length 0 (by omega)
          rw [List.drop_zero, List.drop_zero] at w
          refine w.trans ?_
          congr 3
          refine decide_eq_decide.2 ⟨fun e => ?_, fun e => by rw [e]⟩
          obtain ⟨av, ak, al⟩ := a
          obtain ⟨bv, bk, bl⟩ := b
          simp only at h1 h2 e
          rw [h1, h2, e]
        · rw [if_pos (by omega)]
          congr 3
          exact (decide_eq_false (fun e => h3 (by rw [e]))).symm
      · rw [if_pos h2]
        congr 3
        exact (decide_eq_false (fun e => h2 (by rw [e]))).symm
    · rw [if_pos h1]
      congr 3
      exact (decide_eq_false (fun e => h1 (by rw [e]))).symm
  refine AP_of key rfl rfl
theorem fz_av (n : ND) : Fz n.av n.av := fun m => by
  unfold ND.av kidsA
  split <;> rfl
/-- A row of nodes. -/
abbrev NL (z : Bool) (o : Own) (l : List ND) : AV := .lst (some 3) z o (l.map ND.av)
theorem len_NL (z : Bool) (o : Own) (l : List ND) : lenA false (NL z o l) = some (.int .i64 l.length) := by rw [lenA_lst, List.length_map]
theorem idx_NL {z : Bool} {o : Own} {l : List ND} {i : Nat} (hi : i < l.length) : indexAddrA (some 3) (NL z o l) (.int .i64 i) = some (.vptr [.int .i64 l[i].var, kidsA l[i], .int .i64 l[i].leaf]) := by
  simp [indexAddrA, hi]; rfl
theorem ldn (m : Mem) (n : ND) : loadA (some 3) m (.vptr [.int .i64 n.var, kidsA n, .int .i64 n.leaf]) = some n.av := rfl
/-! ### may -/
end Go.Ab

/- Node, New, alive, into, by value. -/
set_option linter.unusedVariables false
set_option linter.unusedSimpArgs false
set_option linter.unusedSectionVars false
set_option maxRecDepth 100000
namespace Go.Ab
open Go.Proofs Go.Proofs.Tryd

theorem st_agg3 {m : Mem} {k : Nat} {a b c a' b' c' : AV} (h : m.get k = some (Ent.obj true [a, b, c])) (hs : shOk (some 3) (.agg [a', b', c']) = true) : storeA (some 3) m (.ptr k 0) (.agg [a', b', c']) = some (m.set k (some (Ent.obj true [a', b', c']))) := by
  rw [st_ptr, h, objE_obj, Option.bind_some]
  simp [putE1, Sh.size, hs, putAt, AV.cells]
theorem sh_i (a b : Int) (z : Bool) (o : Own) (es : List AV) : shOk (some 3) (.agg [.int .i64 a, .lst none z o es, .int .i64 b]) = true := rfl
section
variable {m : Mem} {s : Nat} {F : List Nat} {arms : AV} {most : Int} {l : List ND}
theorem clA_kids {n : ND} (h : n.ok) (hne : ¬ n.var < 0 → n.kids ≠ []) : clA (kz n) n.kids = kidsA n := by
  unfold clA kz kidsA
  by_cases hv : n.var < 0
  · rw [if_pos hv, if_pos rfl, if_pos hv]
  · rw [if_neg hv, if_neg (by simp), if_neg hv, if_neg (hne hv)]
/-- Node: what it gives. -/
def nodeV (l : List ND) (i : Int) : AV × Int := if 0 ≤ i ∧ i < l.length then ((l.getD i.toNat ⟨0, [], 0⟩).av, 0) else (.agg [.int .i64 0, .lst none true .full [], .int .i64 0], 1)
def kidsNe (l : List ND) : Prop := ∀ n ∈ l, ¬ n.var < 0 → n.kids ≠ []
theorem A21 (h : St8 m s F arms most l) (hm : most ≠ 0) (hk : kidsNe l) (i : Int) : ∃ m', AC cfg 19 [.ptr s 0, .int .i64 i] m = some (.tup [(nodeV l i).1, .int .i64 (nodeV l i).2], m') ∧ Fr m m' [] := by
  have f1 : Fr m (m ++ [some (Ent.obj true [.int .i64 0, .lst none true .full [], .int .i64 0])]) [] := Fr.app m _ _
  have h1 := h.app f1
  have e50 := A50 h1 hm
  have e56 := A56 h1 i
  have hs : ∃ na p T, Mem.get m s = some (Ent.obj true [arms, na, .mref p, .int .i64 most]) ∧ NA m na l T ∧ ∀ x ∈ l, x.ok := by
    obtain ⟨p, na, T, h, rfl⟩ := h
    exact ⟨na, p, T, h.hs, h.hn, h.ok⟩
  obtain ⟨na, p, T, hs, hna, hok⟩ := hs
  have hsl := get_lt hs
  by_cases hi : 0 ≤ i ∧ i < l.length
  · have hd : decide (0 ≤ i ∧ i < l.length) = true := decide_eq_true hi
    obtain ⟨t, rfl⟩ := Int.eq_ofNat_of_zero_le hi.1
    have ht : t < l.length := by omega
    have hnv : nodeV l t = (l[t].av, 0) := by rw [nodeV, if_pos hi, Int.toNat_natCast, List.getD_eq_getElem?_getD, List.getElem?_eq_getElem ht, Option.getD_some]
    have hidx := na_idx hna ht
    have hto := hok _ (List.getElem_mem ht)
    have bx := box_av l[t] (m ++ [some (Ent.obj true [.int .i64 0, .lst none true .full [], .int .i64 0])]) (get_len _)
    simp only [List.length_append, List.length_cons, List.length_nil, Nat.zero_add] at bx
    have kk := kids_IA hto
    have hl64 : l[t].kids.length ≤ 1000000 := by
      rcases hto with ⟨_, h2, _⟩ | ⟨_, _, _, _, h5⟩
      · rw [h2]; simp
      · omega
    have c49 := fun m => pc49 (kz l[t]) (ko l[t]) l[t].kids hl64 m
    rw [← kk, clA_kids hto (hk _ (List.getElem_mem ht))] at c49
    have oka := kidsA_ok l[t]
    have cel := kidsA_cells l[t]
    have e : ∃ m', AC cfg 19 [.ptr s 0, .int .i64 t] m = some (.tup [l[t].av, .int .i64 0], m') ∧ m' = List.set ((((m ++ [some (Ent.obj true [.int .i64 0, .lst none true .full [], .int .i64 0])]) ++ [some (Ent.obj true [.int .i64 l[t].var, kidsA l[t], .int .i64 l[t].leaf])]).set (m.length + 1) (some (Ent.obj true [.int .i64 l[t].var, kidsA l[t], .int .i64 l[t].leaf])))) m.length (some (Ent.obj true [.int .i64 l[t].var, kidsA l[t], .int .i64 l[t].leaf])) := by
      refine ⟨_, ?_, rfl⟩
      rw [T19]
      repeat ((with_reducible (first | apply bs | apply bsy)); (focus (first | (simp (disch := (first | assumption | omega | (simp only [List.length_append, List.length_set, List.length_cons, List.length_nil]; first | done | omega))) only [List.all_cons, List.all_nil, Bool.and_true, Bool.and_self, beq_self_eq_true, resv1, List.length_map, ld_v3, ld_v1, binA_eql, binA_neq, binA_lss, binA_leq, binA_gtr, binA_geq, loadA_one, un_not, ld_ptr, st_ptr, putE1, objE_obj, Option.bind_some, cut1, cut3, cut4, nil_ptr, fa_ptr, g_lt, g_eq, g_sne, g_seq, new_n, box_n, List.getElem?_cons_zero, List.getElem?_cons_succ, ex0, ex1, Sh.size, cells_int, aok_int, cells_bool, aok_bool, cells_str, aok_str, cells_lst, aok_lst, cells_ptr, aok_ptr, cells_arr, aok_arr, cells_fn, aok_fn, cells_mref, aok_mref, cells_nilp, aok_nilp, cells_agg, shOk_n, shOk_s, lenA_lst, List.length_cons, List.length_nil, if_true, putAt, List.take_succ_cons, List.take_zero, List.drop_succ_cons, List.drop_zero, List.cons_append, List.nil_append, List.append_nil, Nat.zero_add, Nat.reduceAdd, Nat.reduceLeDiff, Nat.le_refl, List.drop_nil, List.take_nil, List.length_append, List.length_set, e50]; first | done | rfl) | rfl)); try dsimp only)
      rw [ifA_f]
      repeat ((with_reducible (first | apply bs | apply bsy)); (focus (first | (simp (disch := (first | assumption | omega | (simp only [List.length_append, List.length_set, List.length_cons, List.length_nil]; first | done | omega))) only [List.all_cons, List.all_nil, Bool.and_true, Bool.and_self, beq_self_eq_true, resv1, List.length_map, ld_v3, ld_v1, binA_eql, binA_neq, binA_lss, binA_leq, binA_gtr, binA_geq, loadA_one, un_not, ld_ptr, st_ptr, putE1, objE_obj, Option.bind_some, cut1, cut3, cut4, nil_ptr, fa_ptr, g_lt, g_eq, g_sne, g_seq, new_n, box_n, List.getElem?_cons_zero, List.getElem?_cons_succ, ex0, ex1, Sh.size, cells_int, aok_int, cells_bool, aok_bool, cells_str, aok_str, cells_lst, aok_lst, cells_ptr, aok_ptr, cells_arr, aok_arr, cells_fn, aok_fn, cells_mref, aok_mref, cells_nilp, aok_nilp, cells_agg, shOk_n, shOk_s, lenA_lst, List.length_cons, List.length_nil, if_true, putAt, List.take_succ_cons, List.take_zero, List.drop_succ_cons, List.drop_zero, List.cons_append, List.nil_append, List.append_nil, Nat.zero_add, Nat.reduceAdd, Nat.reduceLeDiff, Nat.le_refl, List.drop_nil, List.take_nil, List.length_append, List.length_set, e56]; first | done | rfl) | rfl)); try dsimp only)
      rw [hd, Bool.not_true, ifA_f]
      repeat ((with_reducible (first | apply bs | apply bsy)); (focus (first | (simp (disch := (first | assumption | omega | (simp only [List.length_append, List.length_set, List.length_cons, List.length_nil]; first | done | omega))) only [List.all_cons, List.all_nil, Bool.and_true, Bool.and_self, beq_self_eq_true, resv1, List.length_map, ld_v3, ld_v1, binA_eql, binA_neq, binA_lss, binA_leq, binA_gtr, binA_geq, loadA_one, un_not, ld_ptr, st_ptr, putE1, objE_obj, Option.bind_some, cut1, cut3, cut4, nil_ptr, fa_ptr, g_lt, g_eq, g_sne, g_seq, new_n, box_n, List.getElem?_cons_zero, List.getElem?_cons_succ, ex0, ex1, Sh.size, cells_int, aok_int, cells_bool, aok_bool, cells_str, aok_str, cells_lst, aok_lst, cells_ptr, aok_ptr, cells_arr, aok_arr, cells_fn, aok_fn, cells_mref, aok_mref, cells_nilp, aok_nilp, cells_agg, shOk_n, shOk_s, lenA_lst, List.length_cons, List.length_nil, if_true, putAt, List.take_succ_cons, List.take_zero, List.drop_succ_cons, List.drop_zero, List.cons_append, List.nil_append, List.append_nil, Nat.zero_add, Nat.reduceAdd, Nat.reduceLeDiff, Nat.le_refl, List.drop_nil, List.take_nil, List.length_append, List.length_set, hs, hidx, bx, c49, oka, cel]; first | done | rfl) | rfl)); try dsimp only)
      rfl
    obtain ⟨m', e, rfl⟩ := e
    refine ⟨_, by rw [hnv]; exact e, ((f1.snoc _).set _ (.inr (by omega))).set _ (.inr (by omega))⟩
  · have hd : decide (0 ≤ i ∧ i < l.length) = false := decide_eq_false hi
    have hnv : nodeV l i = (.agg [.int .i64 0, .lst none true .full [], .int .i64 0], 1) := by rw [nodeV, if_neg hi]
    have hb : buildA (.agg [(.int .i64 0), (.lst none true .full []), (.int .i64 0)]) [] = some (.agg [(.int .i64 0), (.lst none true .full []), (.int .i64 0)]) := rfl
    have sa := st_agg3 (m := m ++ [some (Ent.obj true [.int .i64 0, .lst none true .full [], .int .i64 0])]) (k := m.length) (a := .int .i64 0) (b := .lst none true .full []) (c := .int .i64 0) (by simp (disch := (first | assumption | omega | (simp only [List.length_append, List.length_set, List.length_cons, List.length_nil]; first | done | omega))) only [resv1, g_lt, g_eq, g_sne, g_seq]; first | done | rfl) (sh_i 0 0 true .full [])
    refine ⟨_, ?_, f1.set (k := m.length) (some (Ent.obj true [.int .i64 0, .lst none true .full [], .int .i64 0])) (.inr (Nat.le_refl _))⟩
    rw [T19, hnv]
    repeat ((with_reducible (first | apply bs | apply bsy)); (focus (first | (simp (disch := (first | assumption | omega | (simp only [List.length_append, List.length_set, List.length_cons, List.length_nil]; first | done | omega))) only [List.all_cons, List.all_nil, Bool.and_true, Bool.and_self, beq_self_eq_true, resv1, List.length_map, ld_v3, ld_v1, binA_eql, binA_neq, binA_lss, binA_leq, binA_gtr, binA_geq, loadA_one, un_not, ld_ptr, st_ptr, putE1, objE_obj, Option.bind_some, cut1, cut3, cut4, nil_ptr, fa_ptr, g_lt, g_eq, g_sne, g_seq, new_n, box_n, List.getElem?_cons_zero, List.getElem?_cons_succ, ex0, ex1, Sh.size, cells_int, aok_int, cells_bool, aok_bool, cells_str, aok_str, cells_lst, aok_lst, cells_ptr, aok_ptr, cells_arr, aok_arr, cells_fn, aok_fn, cells_mref, aok_mref, cells_nilp, aok_nilp, cells_agg, shOk_n, shOk_s, lenA_lst, List.length_cons, List.length_nil, if_true, putAt, List.take_succ_cons, List.take_zero, List.drop_succ_cons, List.drop_zero, List.cons_append, List.nil_append, List.append_nil, Nat.zero_add, Nat.reduceAdd, Nat.reduceLeDiff, Nat.le_refl, List.drop_nil, List.take_nil, List.length_append, List.length_set, e50]; first | done | rfl) | rfl)); try dsimp only)
    rw [ifA_f]
    repeat ((with_reducible (first | apply bs | apply bsy)); (focus (first | (simp (disch := (first | assumption | omega | (simp only [List.length_append, List.length_set, List.length_cons, List.length_nil]; first | done | omega))) only [List.all_cons, List.all_nil, Bool.and_true, Bool.and_self, beq_self_eq_true, resv1, List.length_map, ld_v3, ld_v1, binA_eql, binA_neq, binA_lss, binA_leq, binA_gtr, binA_geq, loadA_one, un_not, ld_ptr, st_ptr, putE1, objE_obj, Option.bind_some, cut1, cut3, cut4, nil_ptr, fa_ptr, g_lt, g_eq, g_sne, g_seq, new_n, box_n, List.getElem?_cons_zero, List.getElem?_cons_succ, ex0, ex1, Sh.size, cells_int, aok_int, cells_bool, aok_bool, cells_str, aok_str, cells_lst, aok_lst, cells_ptr, aok_ptr, cells_arr, aok_arr, cells_fn, aok_fn, cells_mref, aok_mref, cells_nilp, aok_nilp, cells_agg, shOk_n, shOk_s, lenA_lst, List.length_cons, List.length_nil, if_true, putAt, List.take_succ_cons, List.take_zero, List.drop_succ_cons, List.drop_zero, List.cons_append, List.nil_append, List.append_nil, Nat.zero_add, Nat.reduceAdd, Nat.reduceLeDiff, Nat.le_refl, List.drop_nil, List.take_nil, List.length_append, List.length_set, e56]; first | done | rfl) | rfl)); try dsimp only)
    rw [hd, Bool.not_false, ifA_t]
    repeat ((with_reducible (first | apply bs | apply bsy)); (focus (first | (simp (disch := (first | assumption | omega | (simp only [List.length_append, List.length_set, List.length_cons, List.length_nil]; first | done | omega))) only [List.all_cons, List.all_nil, Bool.and_true, Bool.and_self, beq_self_eq_true, resv1, List.length_map, ld_v3, ld_v1, binA_eql, binA_neq, binA_lss, binA_leq, binA_gtr, binA_geq, loadA_one, un_not, ld_ptr, st_ptr, putE1, objE_obj, Option.bind_some, cut1, cut3, cut4, nil_ptr, fa_ptr, g_lt, g_eq, g_sne, g_seq, new_n, box_n, List.getElem?_cons_zero, List.getElem?_cons_succ, ex0, ex1, Sh.size, cells_int, aok_int, cells_bool, aok_bool, cells_str, aok_str, cells_lst, aok_lst, cells_ptr, aok_ptr, cells_arr, aok_arr, cells_fn, aok_fn, cells_mref, aok_mref, cells_nilp, aok_nilp, cells_agg, shOk_n, shOk_s, lenA_lst, List.length_cons, List.length_nil, if_true, putAt, List.take_succ_cons, List.take_zero, List.drop_succ_cons, List.drop_zero, List.cons_append, List.nil_append, List.append_nil, Nat.zero_add, Nat.reduceAdd, Nat.reduceLeDiff, Nat.le_refl, List.drop_nil, List.take_nil, List.length_append, List.length_set, hb, sa]; first | done | rfl) | rfl)); try dsimp only)
/-! ### New -/
theorem A48 (k : Int) (m : Mem) : AC cfg 31 [.int .i64 k] m = some (.bool (!armB k), m) := by
  rw [T31, binA_lss, Option.bind_some, ifA_dec]
  by_cases h1 : k < 1
  · rw [if_pos h1, armB, decide_eq_false (by omega)]; rfl
  · rw [if_neg h1, binA_gtr, Option.bind_some, armB, ← decide_not]
    congr 3
    exact decide_eq_decide.2 (by omega)
theorem clA_IA (z : Bool) (ns : List Int) (h : z = true → ns = []) : ∃ z' o', clA z ns = IA z' o' ns ∧ (o' = .no ∨ o' = .full) ∧ (z' = true → ns = []) := by
  cases z with
  | true => rw [h rfl]; exact ⟨true, .full, rfl, .inr rfl, fun _ => rfl⟩
  | false =>
    cases ns with
    | nil => exact ⟨false, .full, rfl, .inr rfl, fun h => by cases h⟩
    | cons n ns => exact ⟨false, .no, rfl, .inl rfl, fun h => by cases h⟩
theorem A14 (m : Mem) (z : Bool) (o : Own) (ns : List Int) (hz : z = true → ns = []) (he : armsE ns = 0) :
    ∃ m' s F z' o', AC cfg 17 [IA z o ns] m = some (.tup [.ptr s 0, .int .i64 0], m') ∧ St8 m' s F (IA z' o' ns) 4000 [] ∧ Fr m m' [] ∧ (∀ x ∈ F, m.length ≤ x) := by
  obtain ⟨h1, h2⟩ := armsE_ok he
  obtain ⟨m1, e47, f1⟩ := A47 (m := m) (z := z) (o := o) (ks := ns) (g := 31) (caps := []) (p := fun k => !armB k) (by omega) rfl rfl rfl (fun m1 k _ => ⟨m1, A48 k m1, Fr.refl _ _⟩)
  have ha : ns.all armB = true := List.all_eq_true.2 fun a ha => decide_eq_true (h2 a ha)
  rw [any_not, ha, Bool.not_true] at e47
  obtain ⟨z', o', ec, _, _⟩ := clA_IA z ns hz
  have c49 := fun m => pc49 z o ns (by omega) m
  rw [ec] at c49
  have l1 := f1.len
  refine ⟨(m1 ++ [some (Ent.mp .str [])]) ++ [some (Ent.obj true [IA z' o' ns, .lst none true .full [], .mref m1.length, .int .i64 4000])], m1.length + 1, [m1.length + 1, m1.length], z', o', ?_, ?_, (f1.snoc _).snoc _, ?_⟩
  · have hb : buildA (.agg [(.lst none true .full []), (.lst none true .full []), .any, (.int .i64 0)]) [(0, none, IA z' o' ns), (2, none, (.mref m1.length)), (3, none, (.int .i64 4000))] = some (.agg [IA z' o' ns, .lst none true .full [], .mref m1.length, .int .i64 4000]) := rfl
    have hx : ∀ m, boxA none (some 4) m (.agg [IA z' o' ns, .lst none true .full [], .mref m1.length, .int .i64 4000]) = some (.ptr m.length 0, m ++ [some (Ent.obj true [IA z' o' ns, .lst none true .full [], .mref m1.length, .int .i64 4000])]) := fun m => rfl
    rw [T17, len_IA, Option.bind_some, binA_gtr, Option.bind_some, ifA_dec, if_neg (by omega), e47, Option.bind_some, ifA_f]
    repeat ((with_reducible (first | apply bs | apply bsy)); (focus (first | (simp (disch := (first | assumption | omega | (simp only [List.length_append, List.length_set, List.length_cons, List.length_nil]; first | done | omega))) only [List.all_cons, List.all_nil, Bool.and_true, Bool.and_self, beq_self_eq_true, resv1, List.length_map, ld_v3, ld_v1, binA_eql, binA_neq, binA_lss, binA_leq, binA_gtr, binA_geq, loadA_one, un_not, ld_ptr, st_ptr, putE1, objE_obj, Option.bind_some, cut1, cut3, cut4, nil_ptr, fa_ptr, g_lt, g_eq, g_sne, g_seq, new_n, box_n, List.getElem?_cons_zero, List.getElem?_cons_succ, ex0, ex1, Sh.size, cells_int, aok_int, cells_bool, aok_bool, cells_str, aok_str, cells_lst, aok_lst, cells_ptr, aok_ptr, cells_arr, aok_arr, cells_fn, aok_fn, cells_mref, aok_mref, cells_nilp, aok_nilp, cells_agg, shOk_n, shOk_s, lenA_lst, List.length_cons, List.length_nil, if_true, putAt, List.take_succ_cons, List.take_zero, List.drop_succ_cons, List.drop_zero, List.cons_append, List.nil_append, List.append_nil, Nat.zero_add, Nat.reduceAdd, Nat.reduceLeDiff, Nat.le_refl, List.drop_nil, List.take_nil, List.length_append, List.length_set, c49, hb, hx]; first | done | rfl) | rfl)); try dsimp only)
  · refine ⟨m1.length, .lst none true .full [], [], ⟨(by simp (disch := (first | assumption | omega | (simp only [List.length_append, List.length_set, List.length_cons, List.length_nil]; first | done | omega))) only [resv1, g_lt, g_eq, g_sne, g_seq]; first | done | rfl), (by simp (disch := (first | assumption | omega | (simp only [List.length_append, List.length_set, List.length_cons, List.length_nil]; first | done | omega))) only [resv1, g_lt, g_eq, g_sne, g_seq]; first | done | rfl), .none, by simp, by omega, by simp⟩, rfl⟩
  · intro x hx
    simp only [List.mem_cons, List.not_mem_nil, or_false] at hx
    omega
/-! ### alive -/
theorem V13 : AP cfg 6 [] = some (.bool true) := by
  have key : ∃ m', AC cfg 6 [] [] = some (.bool true, m') := by
    obtain ⟨m1, s, F, z', o', e1, h1, _, _⟩ := A14 [] false .full [2] (fun h => by cases h) (by decide)
    obtain ⟨m2, F2, e2, h2, _, _⟩ := A15 h1 7 (by decide) (by omega)
    have hr : leafR [] 7 = ((0, 0), [leafN 7]) := by decide
    rw [hr] at e2 h2
    obtain ⟨m3, e3, f3⟩ := A21 h2 (by omega) (by intro n hn hv; obtain rfl : n = leafN 7 := by simpa using hn
                                                 exact absurd (show (leafN 7).var < 0 by decide) hv) 0
    have hnv : nodeV [leafN 7] 0 = (.agg [.int .i64 (-1), .lst none true .full [], .int .i64 7], 0) := rfl
    rw [hnv] at e3
    have e1 : AC cfg 17 [.lst none false .full [.int .i64 2]] [] = _ := e1
    have sa := st_agg3 (m := m3 ++ [some (Ent.obj true [.int .i64 0, .lst none true .full [], .int .i64 0])]) (k := m3.length) (a := .int .i64 0) (b := .lst none true .full []) (c := .int .i64 0) (by simp (disch := (first | assumption | omega | (simp only [List.length_append, List.length_set, List.length_cons, List.length_nil]; first | done | omega))) only [resv1, g_lt, g_eq, g_sne, g_seq]; first | done | rfl) (sh_i (-1) 7 true .full [])
    refine ⟨List.set (m3 ++ [some (Ent.obj true [.int .i64 0, .lst none true .full [], .int .i64 0])]) m3.length (some (Ent.obj true [.int .i64 (-1), .lst none true .full [], .int .i64 7])), ?_⟩
    rw [T6, show buildSliceA none [(.int .i64 2)] = some (.lst none false .full [.int .i64 2]) from rfl, Option.bind_some]
    repeat ((with_reducible (first | apply bs | apply bsy)); (focus (first | (simp (disch := (first | assumption | omega | (simp only [List.length_append, List.length_set, List.length_cons, List.length_nil]; first | done | omega))) only [List.all_cons, List.all_nil, Bool.and_true, Bool.and_self, beq_self_eq_true, resv1, List.length_map, ld_v3, ld_v1, binA_eql, binA_neq, binA_lss, binA_leq, binA_gtr, binA_geq, loadA_one, un_not, ld_ptr, st_ptr, putE1, objE_obj, Option.bind_some, cut1, cut3, cut4, nil_ptr, fa_ptr, g_lt, g_eq, g_sne, g_seq, new_n, box_n, List.getElem?_cons_zero, List.getElem?_cons_succ, ex0, ex1, Sh.size, cells_int, aok_int, cells_bool, aok_bool, cells_str, aok_str, cells_lst, aok_lst, cells_ptr, aok_ptr, cells_arr, aok_arr, cells_fn, aok_fn, cells_mref, aok_mref, cells_nilp, aok_nilp, cells_agg, shOk_n, shOk_s, lenA_lst, List.length_cons, List.length_nil, if_true, putAt, List.take_succ_cons, List.take_zero, List.drop_succ_cons, List.drop_zero, List.cons_append, List.nil_append, List.append_nil, Nat.zero_add, Nat.reduceAdd, Nat.reduceLeDiff, Nat.le_refl, List.drop_nil, List.take_nil, List.length_append, List.length_set, e1]; first | done | rfl) | rfl)); try dsimp only)
    rw [decide_eq_false (by decide), ifA_f, show binA .pt .eql (.ptr s 0) .nilp = some (.bool false) from rfl, Option.bind_some, ifA_f]
    repeat ((with_reducible (first | apply bs | apply bsy)); (focus (first | (simp (disch := (first | assumption | omega | (simp only [List.length_append, List.length_set, List.length_cons, List.length_nil]; first | done | omega))) only [List.all_cons, List.all_nil, Bool.and_true, Bool.and_self, beq_self_eq_true, resv1, List.length_map, ld_v3, ld_v1, binA_eql, binA_neq, binA_lss, binA_leq, binA_gtr, binA_geq, loadA_one, un_not, ld_ptr, st_ptr, putE1, objE_obj, Option.bind_some, cut1, cut3, cut4, nil_ptr, fa_ptr, g_lt, g_eq, g_sne, g_seq, new_n, box_n, List.getElem?_cons_zero, List.getElem?_cons_succ, ex0, ex1, Sh.size, cells_int, aok_int, cells_bool, aok_bool, cells_str, aok_str, cells_lst, aok_lst, cells_ptr, aok_ptr, cells_arr, aok_arr, cells_fn, aok_fn, cells_mref, aok_mref, cells_nilp, aok_nilp, cells_agg, shOk_n, shOk_s, lenA_lst, List.length_cons, List.length_nil, if_true, putAt, List.take_succ_cons, List.take_zero, List.drop_succ_cons, List.drop_zero, List.cons_append, List.nil_append, List.append_nil, Nat.zero_add, Nat.reduceAdd, Nat.reduceLeDiff, Nat.le_refl, List.drop_nil, List.take_nil, List.length_append, List.length_set, e2, e3, sa]; first | done | rfl) | rfl)); try dsimp only)
    rw [decide_eq_true (by decide), ifA_t]
    repeat ((with_reducible (first | apply bs | apply bsy)); (focus (first | (simp (disch := (first | assumption | omega | (simp only [List.length_append, List.length_set, List.length_cons, List.length_nil]; first | done | omega))) only [List.all_cons, List.all_nil, Bool.and_true, Bool.and_self, beq_self_eq_true, resv1, List.length_map, ld_v3, ld_v1, binA_eql, binA_neq, binA_lss, binA_leq, binA_gtr, binA_geq, loadA_one, un_not, ld_ptr, st_ptr, putE1, objE_obj, Option.bind_some, cut1, cut3, cut4, nil_ptr, fa_ptr, g_lt, g_eq, g_sne, g_seq, new_n, box_n, List.getElem?_cons_zero, List.getElem?_cons_succ, ex0, ex1, Sh.size, cells_int, aok_int, cells_bool, aok_bool, cells_str, aok_str, cells_lst, aok_lst, cells_ptr, aok_ptr, cells_arr, aok_arr, cells_fn, aok_fn, cells_mref, aok_mref, cells_nilp, aok_nilp, cells_agg, shOk_n, shOk_s, lenA_lst, List.length_cons, List.length_nil, if_true, putAt, List.take_succ_cons, List.take_zero, List.drop_succ_cons, List.drop_zero, List.cons_append, List.nil_append, List.append_nil, Nat.zero_add, Nat.reduceAdd, Nat.reduceLeDiff, Nat.le_refl, List.drop_nil, List.take_nil, List.length_append, List.length_set]; first | done | rfl) | rfl)); try dsimp only)
    rw [decide_eq_true (by decide), ifA_t]
    repeat ((with_reducible (first | apply bs | apply bsy)); (focus (first | (simp (disch := (first | assumption | omega | (simp only [List.length_append, List.length_set, List.length_cons, List.length_nil]; first | done | omega))) only [List.all_cons, List.all_nil, Bool.and_true, Bool.and_self, beq_self_eq_true, resv1, List.length_map, ld_v3, ld_v1, binA_eql, binA_neq, binA_lss, binA_leq, binA_gtr, binA_geq, loadA_one, un_not, ld_ptr, st_ptr, putE1, objE_obj, Option.bind_some, cut1, cut3, cut4, nil_ptr, fa_ptr, g_lt, g_eq, g_sne, g_seq, new_n, box_n, List.getElem?_cons_zero, List.getElem?_cons_succ, ex0, ex1, Sh.size, cells_int, aok_int, cells_bool, aok_bool, cells_str, aok_str, cells_lst, aok_lst, cells_ptr, aok_ptr, cells_arr, aok_arr, cells_fn, aok_fn, cells_mref, aok_mref, cells_nilp, aok_nilp, cells_agg, shOk_n, shOk_s, lenA_lst, List.length_cons, List.length_nil, if_true, putAt, List.take_succ_cons, List.take_zero, List.drop_succ_cons, List.drop_zero, List.cons_append, List.nil_append, List.append_nil, Nat.zero_add, Nat.reduceAdd, Nat.reduceLeDiff, Nat.le_refl, List.drop_nil, List.take_nil, List.length_append, List.length_set]; first | done | rfl) | rfl)); try dsimp only)
    rw [decide_eq_true (by decide), ifA_t]
    repeat ((with_reducible (first | apply bs | apply bsy)); (focus (first | (simp (disch := (first | assumption | omega | (simp only [List.length_append, List.length_set, List.length_cons, List.length_nil]; first | done | omega))) only [List.all_cons, List.all_nil, Bool.and_true, Bool.and_self, beq_self_eq_true, resv1, List.length_map, ld_v3, ld_v1, binA_eql, binA_neq, binA_lss, binA_leq, binA_gtr, binA_geq, loadA_one, un_not, ld_ptr, st_ptr, putE1, objE_obj, Option.bind_some, cut1, cut3, cut4, nil_ptr, fa_ptr, g_lt, g_eq, g_sne, g_seq, new_n, box_n, List.getElem?_cons_zero, List.getElem?_cons_succ, ex0, ex1, Sh.size, cells_int, aok_int, cells_bool, aok_bool, cells_str, aok_str, cells_lst, aok_lst, cells_ptr, aok_ptr, cells_arr, aok_arr, cells_fn, aok_fn, cells_mref, aok_mref, cells_nilp, aok_nilp, cells_agg, shOk_n, shOk_s, lenA_lst, List.length_cons, List.length_nil, if_true, putAt, List.take_succ_cons, List.take_zero, List.drop_succ_cons, List.drop_zero, List.cons_append, List.nil_append, List.append_nil, Nat.zero_add, Nat.reduceAdd, Nat.reduceLeDiff, Nat.le_refl, List.drop_nil, List.take_nil, List.length_append, List.length_set]; first | done | rfl) | rfl)); try dsimp only)
    rfl
  obtain ⟨m', e⟩ := key
  unfold AP acallP
  rw [e]
  rfl
theorem pc13 (d : Option Nat) (m : Mem) : pcall (AP cfg) d m 6 [] = some (.bool true, m) := by rw [pcall0, V13]; rfl
end
/-! ### into -/
/-- A row of nodes that is appended to, of elements of type e. -/
inductive NR (e : Nat) (m : Mem) : AV → List ND → List Nat → Prop
  | none : NR e m (.lst none true .full []) [] []
  | some (t : Nat) (l : List ND) (ht : m.get t = some (.tok l.length 3)) : NR e m (.lst (some 3) false (.tok t e) (l.map ND.av)) l [t]
theorem nr_move {e : Nat} {m m' : Mem} {x : AV} {l : List ND} {T : List Nat} (h : NR e m x l T) (f : ∀ k ∈ T, m'.get k = m.get k) : NR e m' x l T := by
  cases h with
  | none => exact .none
  | some t l ht => exact .some t l ((f t (by simp)).trans ht)
theorem nr_lt {e : Nat} {m : Mem} {x : AV} {l : List ND} {T : List Nat} (h : NR e m x l T) : ∀ k ∈ T, k < m.length := by
  cases h with
  | none => simp
  | some t l ht => intro k hk; obtain rfl : k = t := by simpa using hk
                   exact get_lt ht
theorem nr_len {e : Nat} {m : Mem} {x : AV} {l : List ND} {T : List Nat} (h : NR e m x l T) : lenA false x = some (.int .i64 l.length) := by
  cases h with
  | none => rfl
  | some t l ht => rw [lenA_lst, List.length_map]
theorem nr_idx {e : Nat} {m : Mem} {x : AV} {l : List ND} {T : List Nat} (h : NR e m x l T) {i : Nat} (hi : i < l.length) : indexAddrA (some 3) x (.int .i64 i) = some (.vptr [.int .i64 l[i].var, kidsA l[i], .int .i64 l[i].leaf]) := by
  cases h with
  | none => simp at hi
  | some t l ht => exact idx_NL hi
theorem idxOf_first {n : ND} : ∀ {l : List ND} {i : Nat} (hi : i < l.length), l[i] = n → (∀ t (ht : t < l.length), t < i → l[t] ≠ n) → l.idxOf n = i
  | [], i, hi, _, _ => by simp at hi
  | x :: l, 0, _, h, _ => by
    have h : x = n := h
    rw [h]; simp
  | x :: l, i + 1, hi, h, hne => by
    have hx : x ≠ n := hne 0 (by simp) (by omega)
    rw [List.idxOf_cons, cond_eq_ite, if_neg (by simpa using hx), idxOf_first (l := l) (i := i) (by simpa using hi) (by simpa using h) (fun t ht hti => by
      have := hne (t + 1) (by simpa using ht) (by omega)
      simpa using this)]
end Go.Ab

/- Tables, the builder of diagrams, by value. -/
set_option linter.unusedVariables false
set_option linter.unusedSimpArgs false
set_option linter.unusedSectionVars false
set_option maxRecDepth 100000
namespace Go.Ab
open Go.Proofs Go.Proofs.Tryd

theorem n_rem {tk : TK} {a b : Nat} (h : b ≠ 0) : binA tk .rem (.int .i64 a) (.int .i64 b) = some (.int .i64 (a % b : Nat)) := by
  have e : binA tk .rem (.int .i64 a) (.int .i64 b) = if (b : Int) = 0 then none else some (.int .i64 ((a : Int).tmod b)) := by cases tk <;> rfl
  rw [e, if_neg (by omega)]
  rfl
theorem n_quo {tk : TK} {a b : Nat} (h : b ≠ 0) (h' : a < 9223372036854775808) : binA tk .quo (.int .i64 a) (.int .i64 b) = some (.int .i64 (a / b : Nat)) := by
  have e : binA tk .quo (.int .i64 a) (.int .i64 b) = if (b : Int) = 0 then none else some (.int .i64 (IntKind.wrap .i64 ((a : Int).tdiv b))) := by cases tk <;> rfl
  rw [e, if_neg (by omega)]
  have e2 : (a : Int).tdiv b = ((a / b : Nat) : Int) := rfl
  have := Nat.div_le_self a b
  rw [e2]
  generalize a / b = q at *
  rw [wrap_i64 (by omega) (by omega)]
theorem n_mul {tk : TK} {a b : Nat} (h : a * b < 9223372036854775808) : binA tk .mul (.int .i64 a) (.int .i64 b) = some (.int .i64 (a * b : Nat)) := by
  rw [binA_mul, ← Int.natCast_mul]
  generalize a * b = q at *
  rw [wrap_i64 (by omega) (by omega)]
theorem rem5 (tk : TK) (a : Int) : binA tk .rem (.int .i64 a) (.int .i64 5) = some (.int .i64 (a.tmod 5)) := by cases tk <;> rfl
/-! ### Rows that grow -/
inductive GR (e : Nat) (m : Mem) : AV → List AV → List Nat → Prop
  | none : GR e m (.lst none true .full []) [] []
  | some (t : Nat) (es : List AV) (ht : m.get t = some (.tok es.length 1)) (hne : es ≠ []) : GR e m (.lst none false (.tok t e) es) es [t]
theorem gr_move {e : Nat} {m m' : Mem} {x : AV} {l : List AV} {T : List Nat} (h : GR e m x l T) (f : ∀ k ∈ T, m'.get k = m.get k) : GR e m' x l T := by
  cases h with
  | none => exact .none
  | some t l ht hne => exact .some t l ((f t (by simp)).trans ht) hne
theorem gr_lt {e : Nat} {m : Mem} {x : AV} {l : List AV} {T : List Nat} (h : GR e m x l T) : ∀ k ∈ T, k < m.length := by
  cases h with
  | none => simp
  | some t l ht _ =>
    intro k hk
    obtain rfl : k = t := by simpa using hk
    exact get_lt ht
theorem gr_out {e : Nat} {m : Mem} {x : AV} {l : List AV} {T : List Nat} (h : GR e m x l T) : ∃ z o, x = .lst none z o l ∧ (z = true → l = []) := by
  cases h with
  | none => exact ⟨true, .full, rfl, fun _ => rfl⟩
  | some t l ht _ => exact ⟨false, .tok t e, rfl, fun h => by cases h⟩
theorem gr_app {e b : Nat} {m : Mem} {x : AV} {l : List AV} {T : List Nat} (h : GR e m x l T) (hl : l.length < 1000000) (hb : b ≤ 64) (y : AV) : ∃ x' m' T', appA none false e none b m x (.lst none false .full [y]) = some (x', m') ∧ GR e m' x' (l ++ [y]) T' ∧ Fr m m' T ∧ Gr m T T' := by
  have h2 : (l.length + 1) * b ≤ roomA := by
    have := Nat.mul_le_mul (show l.length + 1 ≤ 1000000 by omega) hb
    unfold roomA; omega
  cases h with
  | none =>
    refine ⟨.lst none false (.tok m.length e) [y], m ++ [some (Ent.tok 1 1)], [m.length], ?_, .some _ [y] (by simp (disch := (first | assumption | omega | (simp only [List.length_append, List.length_set, List.length_cons, List.length_nil]; first | done | omega))) only [resv1, g_lt, g_eq, g_sne, g_seq]; first | done | rfl) (by simp), Fr.app m _ _, fun k hk => ?_⟩
    · have h2 : b ≤ roomA := by simpa using h2
      simp [appA, h2, newAt, Sh.size]
    · obtain rfl : k = m.length := by simpa using hk
      exact .inr (Nat.le_refl _)
  | some t es ht _ =>
    have htl := get_lt ht
    refine ⟨.lst none false (.tok t e) (l ++ [y]), m.set t (some (Ent.tok (l.length + 1) 1)), [t], ?_, ?_, (Fr.refl m [t]).set _ (.inl (by simp)), Gr.refl _ _⟩
    · simp [appA, ht, Sh.size, h2]
    · refine .some t (l ++ [y]) ?_ (by simp)
      rw [g_seq rfl htl, List.length_append]; rfl
/-! ### Places -/
theorem places_prod {most : Int} : ∀ (l : List Int) (acc : Int), (∀ a ∈ l, 1 ≤ a) → 1 ≤ acc → acc ≤ most → placesF most acc l ≠ 0 → placesF most acc l = acc * prodF l ∧ acc * prodF l ≤ most
  | [], acc, _, h1, h2, _ => by simp only [placesF, prodF]; omega
  | n :: l, acc, hl, h1, h2, h => by
    rw [placesF] at h ⊢
    have hn := hl n List.mem_cons_self
    by_cases hg : acc * n > most
    · rw [if_pos hg] at h; exact absurd rfl h
    · rw [if_neg hg] at h ⊢
      have hp : 1 ≤ acc * n := by have := Int.mul_le_mul h1 hn (by omega) (by omega); simpa using this
      have e := places_prod l (acc * n) (fun a ha => hl a (List.mem_cons_of_mem _ ha)) hp (by omega) h
      have e2 : acc * ((prodF (n :: l) : Nat) : Int) = acc * n * prodF l := by
        rw [prodF, Int.natCast_mul, Int.toNat_of_nonneg (by omega), Int.mul_assoc]
      rw [e2]
      exact e
theorem prod_pos {l : List Int} (h : ∀ a ∈ l, 1 ≤ a) : 1 ≤ prodF l := by
  induction l with
  | nil => exact Nat.le_refl _
  | cons n l ih =>
    rw [prodF]
    have h1 := h n List.mem_cons_self
    exact Nat.mul_pos (by omega) (ih fun a ha => h a (List.mem_cons_of_mem _ ha))
theorem places_big {most : Int} : ∀ (l : List Int) (acc : Int), (∀ a ∈ l, 1 ≤ a) → 1 ≤ acc → acc * prodF l ≤ most → placesF most acc l = acc * prodF l
  | [], acc, _, h1, _ => by simp [placesF, prodF]
  | n :: l, acc, hl, h1, h => by
    have hn := hl n List.mem_cons_self
    have e2 : acc * ((prodF (n :: l) : Nat) : Int) = acc * n * prodF l := by
      rw [prodF, Int.natCast_mul, Int.toNat_of_nonneg (by omega), Int.mul_assoc]
    rw [e2] at h ⊢
    have hp : 1 ≤ acc * n := by have := Int.mul_le_mul h1 hn (by omega) (by omega); simpa using this
    have hl' := prod_pos fun a ha => hl a (List.mem_cons_of_mem n ha)
    have h3 : acc * n * 1 ≤ acc * n * (prodF l : Nat) := Int.mul_le_mul_of_nonneg_left (by omega) (by omega)
    rw [placesF, if_neg (by omega)]
    exact places_big l (acc * n) (fun a ha => hl a (List.mem_cons_of_mem _ ha)) hp h
/-! ### table -/
theorem W28 {z zl : Bool} {o ol : Own} {ar l : List Int} (h1 : ar.length ≤ 16) (h2 : ∀ a ∈ ar, 1 ≤ a ∧ a ≤ 64) {N : Nat} (hN : placesF 300 1 ar = N) (hN2 : N ≤ 300) : ∀ (j i : Nat) (m : Mem) (x : AV) (t : List Int) (T : List Nat), i + j = N → GR 3 m x (t.map (AV.int .i64)) T → t.length = i → (∀ y ∈ t, 0 ≤ y ∧ y ≤ 4) →
    ∃ (m' : Mem) (x' : AV) (t' : List Int) (T' : List Nat), L7_3 (IA z o ar) (IA zl ol l) x (.int .i64 i) m (K7_3 (finK cfg.P f7.results.toList)) = some (x', m') ∧ GR 3 m' x' (t'.map (AV.int .i64)) T' ∧ t'.length = N ∧ ∀ y ∈ t', 0 ≤ y ∧ y ≤ 4 := by
  intro j
  induction j with
  | zero =>
    intro i m x t T hi h ht hy
    refine ⟨m, x, t, T, ?_, h, by omega, hy⟩
    rw [L7_3_eq, pc27 _ _ _ h1 h2 300 (by omega), Option.bind_some, hN, n_lss, Option.bind_some, ifA_dec, if_neg (by omega), K7_3_x0]
  | succ j ih =>
    intro i m x t T hi h ht hy
    have nx : ∀ (y : Int), ∃ (m' : Mem) (x' : AV) (t' : List Int) (T' : List Nat), ((appA none false 3 none 8 m x (.lst none false .full [.int .i64 ((IntKind.wrap .i64 (y.tmod 5 + 5)).tmod 5)])).bind fun r13 => L7_3 (IA z o ar) (IA zl ol l) r13.1 (.int .i64 (i + 1 : Nat)) r13.2 (K7_3 (finK cfg.P f7.results.toList))) = some (x', m') ∧ GR 3 m' x' (t'.map (AV.int .i64)) T' ∧ t'.length = N ∧ ∀ y ∈ t', 0 ≤ y ∧ y ≤ 4 := fun y => by
      obtain ⟨x1, m1, T1, ea, g1, _, _⟩ := gr_app (b := 8) h (by rw [List.length_map]; omega) (by omega) (.int .i64 ((IntKind.wrap .i64 (y.tmod 5 + 5)).tmod 5))
      rw [ea, Option.bind_some]
      have hb : 0 ≤ (IntKind.wrap .i64 (y.tmod 5 + 5)).tmod 5 ∧ (IntKind.wrap .i64 (y.tmod 5 + 5)).tmod 5 ≤ 4 := by
        have a1 := Int.tmod_lt_of_pos y (show (0:Int) < 5 by omega)
        have a2 : -5 < y.tmod 5 := by
          have hd := Int.tmod_add_mul_tdiv y 5
          rcases Int.le_total 0 y with h0 | h0
          · have := Int.tmod_nonneg (a := y) 5 h0; omega
          · have e : (-y).tmod 5 = -(y.tmod 5) := Int.neg_tmod ..
            have := Int.tmod_lt_of_pos (-y) (show (0:Int) < 5 by omega)
            omega
        rw [wrap_i64 (by omega) (by omega)]
        have b1 := Int.tmod_lt_of_pos (y.tmod 5 + 5) (show (0:Int) < 5 by omega)
        have b2 := Int.tmod_nonneg (a := y.tmod 5 + 5) 5 (by omega)
        omega
      have g2 : GR 3 m1 x1 ((t ++ [(IntKind.wrap .i64 (y.tmod 5 + 5)).tmod 5]).map (AV.int .i64)) T1 := by
        rw [List.map_append]; exact g1
      exact ih (i + 1) m1 x1 _ T1 (by omega) g2 (by simp [ht]) fun k hk => by
        rcases List.mem_append.1 hk with hk | hk
        · exact hy k hk
        · obtain rfl : k = _ := by simpa using hk
          exact hb
    rw [L7_3_eq, pc27 _ _ _ h1 h2 300 (by omega), Option.bind_some, hN, n_lss, Option.bind_some, ifA_dec, if_pos (by omega), len_IA, Option.bind_some, binA_gtr, Option.bind_some, ifA_dec]
    by_cases hl : (l.length : Int) > 0
    · rw [if_pos hl, Option.bind_some, n_rem (by omega), Option.bind_some, idx_IA (Nat.mod_lt _ (by omega)), Option.bind_some, loadA_one, Option.bind_some, rem5, Option.bind_some, binA_add, Option.bind_some, rem5, Option.bind_some, build_int, Option.bind_some]
      simp only [i_add1 (show i + 1 < 9223372036854775808 by omega)]
      exact nx _
    · rw [if_neg hl, rem5, Option.bind_some, binA_add, Option.bind_some, rem5, Option.bind_some, build_int, Option.bind_some]
      simp only [i_add1 (show i + 1 < 9223372036854775808 by omega)]
      exact nx _
theorem V28 (z zl : Bool) (o ol : Own) (ar l : List Int) (h1 : ar.length ≤ 16) (h2 : ∀ a ∈ ar, 1 ≤ a ∧ a ≤ 64) {N : Nat} (hN : placesF 300 1 ar = N) (hN2 : N ≤ 300) : ∃ (z' : Bool) (o' : Own) (t : List Int), AP cfg 7 [IA z o ar, IA zl ol l] = some (IA z' o' t) ∧ (z' = true → t = []) ∧ t.length = N ∧ ∀ y ∈ t, 0 ≤ y ∧ y ≤ 4 := by
  obtain ⟨m', x', t, T', e, g, ht, hy⟩ := W28 (z := z) (zl := zl) (o := o) (ol := ol) (l := l) h1 h2 hN hN2 N 0 [] (.lst none true .full []) [] [] (by omega) .none rfl (by simp)
  obtain ⟨z', o', rfl, hz⟩ := gr_out g
  refine ⟨z', o'.fr, t, ?_, fun h => List.map_eq_nil_iff.1 (hz h), ht, hy⟩
  refine AP_of (m := m') (v := IA z' o' t) (l := []) ?_ (fz_IA z' o' t m') rfl
  rw [T7]
  exact e
/-! ### build -/
theorem cut_IA (z : Bool) (o : Own) (t : List Int) (k : IntKind) {n i : Nat} (h : (i + 1) * n ≤ t.length) : sliceT none (IA z o t) (some (.int k (i * n : Nat))) (some (.int k ((i + 1) * n : Nat))) none = some (IA z .no (part t n i)) := by
  have h2 : i * n ≤ (i + 1) * n := Nat.mul_le_mul_right _ (by omega)
  have e : (i + 1) * n - i * n = n := by rw [Nat.add_mul, Nat.one_mul]; omega
  have e2 : part t n i = (t.take ((i + 1) * n)).drop (i * n) := by rw [List.drop_take, e]; rfl
  rw [e2]
  have e3 : sliceT none (IA z o t) (some (.int k (i * n : Nat))) (some (.int k ((i + 1) * n : Nat))) none = (boundA (List.map (AV.int .i64) t).length (some (.int k ((i + 1) * n : Nat))) (List.map (AV.int .i64) t).length).bind fun h => (boundA h (some (.int k (i * n : Nat))) 0).bind fun l => some (.lst none z .no (((List.map (AV.int .i64) t).take h).drop l)) := by
    have e4 : ∀ (es : List AV) (x y : Option AV), sliceT none (.lst none z o es) x y none = if (none : Sh) = none ∨ es = [] then (boundA es.length y es.length).bind fun h => (boundA h x 0).bind fun l => some (.lst none z .no ((es.take h).drop l)) else none := fun _ _ _ => rfl
    rw [e4, if_pos (.inl rfl)]
  rw [e3]
  have b1 : boundA (List.map (AV.int .i64) t).length (some (.int k ((i + 1) * n : Nat))) (List.map (AV.int .i64) t).length = some ((i + 1) * n) := by
    simp only [boundA, List.length_map]
    rw [if_pos ⟨by omega, by omega⟩, Int.toNat_natCast]
  have b2 : boundA ((i + 1) * n) (some (.int k (i * n : Nat))) 0 = some (i * n) := by
    simp only [boundA]
    rw [if_pos ⟨by omega, by omega⟩, Int.toNat_natCast]
  rw [b1, Option.bind_some, b2, Option.bind_some, ← List.map_take, ← List.map_drop]
def BuildAt (s : Nat) (zs za : Bool) (os oa : Own) (ar : List Int) (v n : Nat) : Prop :=
  ∀ (m : Mem) (F : List Nat) (l : List ND) (t : List Int) (z : Bool) (o : Own), St8 m s F (IA zs os ar) 4000 l → GoodL ar l → t.length = n → (∀ x ∈ t, 0 ≤ x ∧ x ≤ 4) → l.length + 2 * n ≤ 4000 → ∃ (m' : Mem) (F' : List Nat) (r : List ND) (id : Nat), AC cfg 20 [.ptr s 0, IA za oa ar, IA z o t, .int .i64 v] m = some (.tup [.int .i64 (id : Nat), .int .i64 0], m') ∧
    St8 m' s F' (IA zs os ar) 4000 (l ++ r) ∧ GoodL ar (l ++ r) ∧ TabV ar (l ++ r) id v t ∧ r.length + 1 ≤ 2 * t.length ∧ Fr m m' F ∧ Gr m F F'
theorem W30k {s : Nat} {zs za z : Bool} {os oa o : Own} {ar t : List Int} {v n a : Nat} (hv : v < ar.length) (ha : ar[v] = (a : Int)) (h1 : ∀ x ∈ ar, 1 ≤ x ∧ x ≤ 64) (hal : ar.length ≤ 16) (ht : t.length = a * n) (hn : n = prodF (ar.drop (v + 1))) (hn0 : 1 ≤ n) (htl : t.length ≤ 300) (hx : ∀ x ∈ t, 0 ≤ x ∧ x ≤ 4)
    {l0 : List ND} (hl0 : l0.length + 2 * t.length ≤ 4000) {m0 : Mem} {F0 : List Nat} (ih : BuildAt s zs za os oa ar (v + 1) n) :
    ∀ (j k : Nat) (m : Mem) (F : List Nat) (R : List ND) (ids : List Nat) (x : AV) (T : List Nat), k + j = a → St8 m s F (IA zs os ar) 4000 (l0 ++ R) → GoodL ar (l0 ++ R) → ids.length = k → (∀ i (h : i < ids.length), TabV ar (l0 ++ R) ids[i] (v + 1) (part t n i)) → R.length + k ≤ 2 * n * k →
      GR 3 m x ((ids.map Int.ofNat).map (AV.int .i64)) T → (∀ y ∈ T, y ∉ F ∧ m0.length ≤ y) → Fr m0 m F0 → Gr m0 F0 F →
      ∃ (m' : Mem) (F' : List Nat) (r : List ND) (id : Nat), L20_6 (.ptr s 0) (IA za oa ar) (IA z o t) (.int .i64 v) x (.int .i64 n) (.int .i64 k) m (K20_6 (finK cfg.P f20.results.toList)) = some (.tup [.int .i64 (id : Nat), .int .i64 0], m') ∧
        St8 m' s F' (IA zs os ar) 4000 (l0 ++ r) ∧ GoodL ar (l0 ++ r) ∧ TabV ar (l0 ++ r) id v t ∧ r.length + 1 ≤ 2 * t.length ∧ Fr m0 m' F0 ∧ Gr m0 F0 F' := by
  have hab := h1 _ (List.getElem_mem hv)
  have hget : ar.getD v 0 = (a : Int) := by rw [List.getD_eq_getElem?_getD, List.getElem?_eq_getElem hv, Option.getD_some, ha]
  have hix : indexAddrA none (IA za oa ar) (.int .i64 v) = some (.vptr [.int .i64 a]) := by rw [idx_IA hv, ha]
  intro j
  induction j with
  | zero =>
    intro k m F R ids x T hk h g hids htab hR hx' hT f gr
    obtain rfl : k = a := by omega
    obtain ⟨xz, xo, rfl, hxz⟩ := gr_out hx'
    have hb : R.length + k ≤ 2 * t.length := by rw [ht, Nat.mul_comm k n, ← Nat.mul_assoc]; exact hR
    have hk' : ∀ i ∈ ids, ∃ h : i < (l0 ++ R).length, (v : Int) < abv ar.length (l0 ++ R)[i] := fun i hi => by
      obtain ⟨q, hq, e⟩ := List.getElem_of_mem hi
      have := htab q hq
      rw [e] at this
      exact ⟨this.lt, by have := this.top this.lt; omega⟩
    have hll : (l0 ++ R).length < 4000 := by rw [List.length_append]; omega
    obtain ⟨r1, id, er, hr1, hr2, g2, tv⟩ := tab_node g h1 hal hv (ks := ids) (t := t) (by rw [hids, hget]) (by rw [ht, prod_step hv, hget, hn]; rfl) (fun q hq => by rw [← hn]; exact htab q hq) (by omega)
    have mk : makeR ar (l0 ++ R) v (ids.map Int.ofNat) = (((id : Int), 0), (l0 ++ R) ++ r1) := by
      unfold makeR
      rw [if_pos, er]
      refine ⟨by omega, by omega, by rw [Int.toNat_natCast, hget, List.length_map, hids], List.all_eq_true.2 fun q hq => ?_⟩
      obtain ⟨i, hi, rfl⟩ := List.mem_map.1 hq
      obtain ⟨hi1, hi2⟩ := hk' i hi
      unfold kidOk
      simp only [Bool.and_eq_true, decide_eq_true_eq]
      refine ⟨⟨Int.natCast_nonneg i, show (i : Int) < ((l0 ++ R).length : Nat) by omega⟩, ?_⟩
      have : (Int.ofNat i).toNat = i := rfl
      rw [this, List.getD_eq_getElem?_getD, List.getElem?_eq_getElem hi1, Option.getD_some]
      exact hi2
    obtain ⟨m2, F2, e17, k1, k2, k3⟩ := A17 (kz := xz) (ko := xo) (ks := ids.map Int.ofNat) h v (fun hh => List.map_eq_nil_iff.1 (hxz hh)) h1 hal (by rw [List.length_map]; omega) (by omega) (by omega)
    rw [mk] at e17 k1
    have e17 : AC cfg 37 [.ptr s 0, .int .i64 v, .lst none xz xo ((ids.map Int.ofNat).map (AV.int .i64))] m = _ := e17
    refine ⟨m2, F2, R ++ r1, id, ?_, by rw [← List.append_assoc]; exact k1, by rw [← List.append_assoc]; exact g2, by rw [← List.append_assoc]; exact tv, ?_, Fr.trans f k2 gr, Gr.trans f.len gr k3⟩
    · rw [L20_6_eq, hix, Option.bind_some, loadA_one, Option.bind_some, n_lss, Option.bind_some, ifA_dec, if_neg (by omega), K20_6_x0, e17, Option.bind_some]
      rfl
    · rw [List.length_append]
      by_cases hk1 : ids.length = 1
      · rw [hr2 hk1]; simp; omega
      · omega
  | succ j ihj =>
    intro k m F R ids x T hk h g hids htab hR hx' hT f gr
    have hka : k < a := by omega
    have hkn : (k + 1) * n ≤ t.length := by rw [ht]; exact Nat.mul_le_mul_right _ (by omega)
    have hkn0 : k * n ≤ (k + 1) * n := Nat.mul_le_mul_right _ (by omega)
    have hpl : (part t n k).length = n := part_len ht hka
    have hR2 : R.length + k + 2 * n ≤ 2 * t.length := by
      have : 2 * n * k + 2 * n ≤ 2 * t.length := by
        have e : 2 * n * k + 2 * n = 2 * ((k + 1) * n) := by rw [Nat.add_mul, Nat.one_mul, Nat.mul_add, Nat.mul_assoc, Nat.mul_comm n k]
        omega
      omega
    obtain ⟨m1, F1, r1, id, e30, k1, k2, k3, k4, k5, k6⟩ := ih m F (l0 ++ R) (part t n k) z .no h g hpl (fun y hy => hx y (part_mem y hy)) (by rw [List.length_append]; omega)
    rw [hpl] at k4
    have g1 : GR 3 m1 x ((ids.map Int.ofNat).map (AV.int .i64)) T := gr_move hx' fun y hy => k5.get y (gr_lt hx' y hy) (hT y hy).1
    obtain ⟨x2, m2, T2, ea, g2, f2, gg2⟩ := gr_app (b := 8) g1 (by simp; omega) (by omega) (.int .i64 (id : Nat))
    have hTF1 : ∀ y ∈ T, y ∉ F1 := fun y hy hF => by
      rcases k6 y hF with hh | hh
      · exact (hT y hy).1 hh
      · have := gr_lt hx' y hy; omega
    have st2 : St8 m2 s F1 (IA zs os ar) 4000 (l0 ++ (R ++ r1)) := by
      rw [← List.append_assoc]
      exact k1.fr f2 fun y hy hT' => hTF1 y hT' hy
    have e0 : L20_6 (.ptr s 0) (IA za oa ar) (IA z o t) (.int .i64 v) x (.int .i64 n) (.int .i64 k) m (K20_6 (finK cfg.P f20.results.toList)) = L20_6 (.ptr s 0) (IA za oa ar) (IA z o t) (.int .i64 v) x2 (.int .i64 n) (.int .i64 (k + 1 : Nat)) m2 (K20_6 (finK cfg.P f20.results.toList)) := by
      rw [L20_6_eq, hix, Option.bind_some, loadA_one, Option.bind_some, n_lss, Option.bind_some, ifA_dec, if_pos hka, n_mul (by omega), Option.bind_some, i_add1 (by omega), Option.bind_some, n_mul (by omega), Option.bind_some, cut_IA z o t .i64 hkn, Option.bind_some, i_add1 (by omega), Option.bind_some, e30, Option.bind_some, ex0, Option.bind_some, ex1, Option.bind_some, binA_neq, Option.bind_some, ifA_dec, if_neg (by simp), build_int, Option.bind_some, ea, Option.bind_some, Option.bind_some]
    rw [e0]
    refine ihj (k + 1) m2 F1 (R ++ r1) (ids ++ [id]) x2 T2 (by omega) st2 (by rw [← List.append_assoc]; exact k2) (by simp [hids]) (fun i hi => ?_) ?_ (by rw [List.map_append, List.map_append]; exact g2) (fun y hy => ?_) (Fr.trans (Fr.trans f k5 gr) f2 fun y hy => .inr (hT y hy).2) (Gr.trans f.len gr k6)
    · rw [← List.append_assoc]
      by_cases hi2 : i < ids.length
      · rw [List.getElem_append_left hi2]
        exact (htab i hi2).app g r1
      · have : i = ids.length := by simp at hi; omega
        subst this
        have e : (ids ++ [id])[ids.length]'(by simp) = id := by simp
        rw [e, hids]
        exact k3
    · rw [List.length_append, Nat.mul_add, Nat.mul_one]; omega
    · rcases gg2 y hy with hh | hh
      · exact ⟨hTF1 y hh, (hT y hh).2⟩
      · have l1 := f.len; have l2 := k5.len
        exact ⟨fun hF => by have := k1.lt y hF; omega, by omega⟩
theorem A30 {s : Nat} {zs za : Bool} {os oa : Own} {ar : List Int} (h1 : ∀ x ∈ ar, 1 ≤ x ∧ x ≤ 64) (hal : ar.length ≤ 16) (hp : prodF ar ≤ 300) : ∀ (d v : Nat), v + d = ar.length → prodF (ar.drop v) ≤ 300 → BuildAt s zs za os oa ar v (prodF (ar.drop v)) := by
  intro d
  induction d with
  | zero =>
    intro v hv hpv m F l t z o h g ht hx hl
    obtain rfl : v = ar.length := by omega
    rw [List.drop_length] at ht hl
    have ht : t.length = 1 := ht
    obtain ⟨y, rfl⟩ : ∃ y, t = [y] := List.length_eq_one_iff.1 ht
    have hy := hx y (by simp)
    have hl : l.length + 2 ≤ 4000 := hl
    obtain ⟨r, er, hr, g2, tv⟩ := leaf_facts g (x := y) ⟨hy.1, by omega⟩
    obtain ⟨m2, F2, e15, k1, k2, k3⟩ := A15 h y (by omega) (by omega)
    rw [leafR, if_pos ⟨hy.1, by omega⟩] at e15 k1
    dsimp only at e15 k1
    rw [er] at k1
    refine ⟨m2, F2, r, _, ?_, k1, g2, tv, by simp; omega, k2, k3⟩
    rw [T20, len_IA, Option.bind_some, n_eql, Option.bind_some, ifA_dec, if_pos rfl, idx_IA0 (by simp), Option.bind_some, loadA_one, Option.bind_some]
    have e15 : AC cfg 18 [.ptr s 0, .int .i64 [y][0]] m = _ := e15
    rw [e15, Option.bind_some]
    rfl
  | succ d ih =>
    intro v hv hpv m F l t z o h g ht hx hl
    have hvl : v < ar.length := by omega
    have hab := h1 _ (List.getElem_mem hvl)
    obtain ⟨a, ha⟩ := Int.eq_ofNat_of_zero_le (by omega : 0 ≤ ar[v])
    have hget : ar.getD v 0 = (a : Int) := by rw [List.getD_eq_getElem?_getD, List.getElem?_eq_getElem hvl, Option.getD_some, ha]
    have hps : prodF (ar.drop v) = a * prodF (ar.drop (v + 1)) := by rw [prod_step hvl, hget]; rfl
    have hn0 : 1 ≤ prodF (ar.drop (v + 1)) := prod_pos fun x hx => (h1 x (List.drop_subset _ _ hx)).1
    have hle : prodF (ar.drop (v + 1)) ≤ prodF (ar.drop v) := by
      rw [hps]; exact Nat.le_mul_of_pos_left _ (by omega)
    have ihv := ih (v + 1) (by omega) (by omega)
    have hta : t.length = a * prodF (ar.drop (v + 1)) := by rw [ht, hps]
    obtain ⟨m', F', r, id, e, k⟩ := W30k (z := z) (o := o) (m0 := m) (F0 := F) hvl ha h1 hal hta rfl hn0 (by omega) hx (l0 := l) (by omega) ihv a 0 m F [] [] (.lst none true .full []) [] (by omega) (by rw [List.append_nil]; exact h) (by rw [List.append_nil]; exact g) rfl (fun i hi => by simp at hi) (by simp) .none (by simp) (Fr.refl _ _) (Gr.refl _ _)
    refine ⟨m', F', r, id, ?_, k⟩
    have hix : indexAddrA none (IA za oa ar) (.int .i64 v) = some (.vptr [.int .i64 a]) := by rw [idx_IA hvl, ha]
    have hdiv : t.length / a = prodF (ar.drop (v + 1)) := by rw [hta, Nat.mul_div_cancel_left _ (by omega)]
    rw [T20, len_IA, Option.bind_some, n_eql, Option.bind_some, ifA_dec, if_neg (by omega), len_IA, Option.bind_some, hix, Option.bind_some, loadA_one, Option.bind_some, n_quo (by omega) (by omega), Option.bind_some, hdiv]
    exact e
/-- made: a new store and a table's node. -/
theorem A29 {za z : Bool} {oa o : Own} {ar t : List Int} (m : Mem) (hz : za = true → ar = []) (he : armsE ar = 0) (hp : prodF ar ≤ 300) (ht : t.length = prodF ar) (hx : ∀ x ∈ t, 0 ≤ x ∧ x ≤ 4) :
    ∃ m' s F zs os l id, AC cfg 8 [IA za oa ar, IA z o t] m = some (.tup [.ptr s 0, .int .i64 (id : Nat), .bool true], m') ∧ St8 m' s F (IA zs os ar) 4000 l ∧ GoodL ar l ∧ TabV ar l id 0 t ∧ l.length ≤ 600 ∧ Fr m m' [] ∧ ∀ x ∈ F, m.length ≤ x := by
  obtain ⟨h1, h2⟩ := armsE_ok he
  obtain ⟨m1, s, F, zs, os, e14, st, f1, hF⟩ := A14 m za oa ar hz he
  obtain ⟨m2, F2, r, id, e30, k1, k2, k3, k4, k5, k6⟩ := A30 (s := s) (zs := zs) (za := za) (os := os) (oa := oa) h2 h1 hp ar.length 0 (by omega) hp m1 F [] t z o st good_nil ht hx (by simp; have : prodF (ar.drop 0) = prodF ar := rfl; omega)
  rw [List.nil_append] at k1 k2 k3
  have e30 : AC cfg 20 [.ptr s 0, IA za oa ar, IA z o t, .int .i64 0] m1 = _ := e30
  refine ⟨m2, s, F2, zs, os, r, id, ?_, k1, k2, k3, by omega, (Fr.trans f1 k5 fun x hx => .inr (hF x hx)), fun x hx => ?_⟩
  · rw [T8, e14, Option.bind_some, ex0, Option.bind_some, ex1, Option.bind_some, binA_neq, Option.bind_some, ifA_dec, if_neg (by simp), e30, Option.bind_some]
    rfl
  · rcases k6 x hx with hh | hh
    · exact hF x hh
    · have := f1.len; omega
end Go.Ab
