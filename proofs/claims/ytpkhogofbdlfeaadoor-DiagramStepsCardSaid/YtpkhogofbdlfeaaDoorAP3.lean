/- The laws' and the reference's small functions, by value. -/
import Derived.Test.YtpkhogofbdlfeaaDoorAP2
import Derived.Test.YtpkhogofbdlfeaaDoorAP0
import Derived.Test.YtpkhogofbdlfeaaDoorProg
import Derived.Tactics
import Derived.Tactics2
import Derived.Defers
import Derived.Recover
import Derived.Laws.Pointers
import Derived.ProofKit
import Derived.OpenShut
import Derived.ChangeArms
import Derived.LaidMore
import Derived.Lay
import Derived.KernelRfl
import Derived.Test.YtpkhogofbdlfeaaDoorRows
set_option linter.unusedVariables false
set_option linter.unusedSimpArgs false
set_option linter.unusedSectionVars false
set_option maxRecDepth 100000
namespace Go.Ab
open Go.Proofs Go.Proofs.Tryd

/-! ### Arms -/
def armB (n : Int) : Bool := decide (1 ≤ n ∧ n ≤ 64)
def armsE (ns : List Int) : Int := if ns.length > 16 then 2 else if ns.all armB then 0 else 1
theorem W12 (z : Bool) (o : Own) (ns : List Int) (hl : ns.length ≤ 16) (m : Mem) (K : Ex → St → Option (AV × Mem)) : ∀ j i : Nat, i + j = ns.length → L12_4 (IA z o ns) (.int .i64 ns.length) (.int .i64 i) m K = if (ns.drop i).all armB then K (.exit 0) (O12_4 m) else K .ret (R12_4 (.int .i64 1) m)
  | 0, i, h => by
    rw [L12_4_eq, n_lss, Option.bind_some, ifA_dec, if_neg (by omega), List.drop_eq_nil_of_le (by omega)]; rfl
  | j + 1, i, h => by
    have hi : i < ns.length := by omega
    have ih := W12 z o ns hl m K j (i + 1) (by omega)
    rw [L12_4_eq, n_lss, Option.bind_some, ifA_dec, if_pos hi, idx_IA hi, Option.bind_some, loadA_one, Option.bind_some, binA_lss, Option.bind_some, ifA_dec, List.drop_eq_getElem_cons hi, List.all_cons]
    by_cases h1 : ns[i] < 1
    · rw [if_pos h1, show armB ns[i] = false from decide_eq_false (by omega)]; rfl
    · rw [if_neg h1, binA_gtr, Option.bind_some, ifA_dec]
      by_cases h2 : ns[i] > 64
      · rw [if_pos h2, show armB ns[i] = false from decide_eq_false (by omega)]; rfl
      · rw [if_neg h2, i_add1 (by omega), Option.bind_some, ih, show armB ns[i] = true from decide_eq_true (by omega), Bool.true_and]
theorem V12 (z : Bool) (o : Own) (ns : List Int) : AP cfg 12 [IA z o ns] = some (.int .i64 (armsE ns)) := by
  refine AP_of (m := []) (v := .int .i64 (armsE ns)) (l := []) ?_ rfl rfl
  unfold armsE
  rw [T12, len_IA, Option.bind_some, show ((16 : Int)) = ((16 : Nat) : Int) from rfl, n_gtr, Option.bind_some, ifA_dec]
  by_cases h : ns.length > 16
  · rw [if_pos h, if_pos h]
  · rw [if_neg h, if_neg h, Option.bind_some, show ((0 : Int)) = ((0 : Nat) : Int) from rfl, W12 z o ns (by omega) [] _ ns.length 0 (by omega), List.drop_zero]
    by_cases h2 : ns.all armB = true
    · rw [if_pos h2, if_pos h2, K12_4_x0]; rfl
    · rw [if_neg h2, if_neg h2, K12_4_ret]
theorem pc12 (z : Bool) (o : Own) (ns : List Int) (d : Option Nat) (m : Mem) : pcall (AP cfg) d m 12 [IA z o ns] = some (.int .i64 (armsE ns), m) := by
  rw [pcall1 (fz_IA z o ns), V12]; rfl
theorem armsE_ok {ns : List Int} (h : armsE ns = 0) : ns.length ≤ 16 ∧ ∀ a ∈ ns, 1 ≤ a ∧ a ≤ 64 := by
  unfold armsE at h
  split at h
  · cases h
  · split at h
    · rename_i h1 h2
      exact ⟨by omega, fun a ha => by have := List.all_eq_true.1 h2 a ha; exact of_decide_eq_true this⟩
    · cases h
/-! ### Places -/
def placesF (most : Int) : Int → List Int → Int
  | acc, [] => acc
  | acc, n :: l => if acc * n > most then 0 else placesF most (acc * n) l
theorem W27 (z : Bool) (o : Own) (ns : List Int) (hl : ns.length ≤ 16) (hb : ∀ a ∈ ns, 1 ≤ a ∧ a ≤ 64) (most : Int) (hm : 0 ≤ most ∧ most ≤ 1048576) (m : Mem) : ∀ (j i : Nat) (acc : Int), i + j = ns.length → 1 ≤ acc → acc ≤ most ∨ acc = 1 →
    L27_3 (.int .i64 most) (.int .i64 acc) (IA z o ns) (.int .i64 ns.length) (.int .i64 i) m (K27_3 (finK cfg.P f27.results.toList)) = some (.int .i64 (placesF most acc (ns.drop i)), m)
  | 0, i, acc, h, h1, h2 => by
    rw [L27_3_eq, n_lss, Option.bind_some, ifA_dec, if_neg (by omega), List.drop_eq_nil_of_le (by omega), K27_3_x0]; rfl
  | j + 1, i, acc, h, h1, h2 => by
    have hi : i < ns.length := by omega
    have ha := hb ns[i] (List.getElem_mem hi)
    have p1 : acc * ns[i] ≤ 1048576 * 64 := Int.mul_le_mul (by omega) ha.2 (by omega) (by omega)
    have p2 : 1 ≤ acc * ns[i] := by
      have := Int.mul_le_mul h1 ha.1 (by omega) (by omega)
      simpa using this
    rw [L27_3_eq, n_lss, Option.bind_some, ifA_dec, if_pos hi, idx_IA hi, Option.bind_some, loadA_one, Option.bind_some, binA_mul, Option.bind_some, wrap_i64 (by omega) (by omega), binA_gtr, Option.bind_some, ifA_dec, List.drop_eq_getElem_cons hi, placesF]
    by_cases h3 : acc * ns[i] > most
    · rw [if_pos h3, if_pos h3, K27_3_ret]
    · rw [if_neg h3, if_neg h3, i_add1 (by omega), Option.bind_some]
      exact W27 z o ns hl hb most hm m j (i + 1) _ (by omega) p2 (.inl (by omega))
theorem V27 (z : Bool) (o : Own) (ns : List Int) (hl : ns.length ≤ 16) (hb : ∀ a ∈ ns, 1 ≤ a ∧ a ≤ 64) (most : Int) (hm : 0 ≤ most ∧ most ≤ 1048576) : AP cfg 27 [IA z o ns, .int .i64 most] = some (.int .i64 (placesF most 1 ns)) := by
  refine AP_of (m := []) (v := .int .i64 (placesF most 1 ns)) (l := []) ?_ rfl rfl
  rw [T27, len_IA, Option.bind_some, show ((0 : Int)) = ((0 : Nat) : Int) from rfl, W27 z o ns hl hb most hm [] ns.length 0 1 (by omega) (by omega) (.inr rfl), List.drop_zero]
theorem pc27 (z : Bool) (o : Own) (ns : List Int) (hl : ns.length ≤ 16) (hb : ∀ a ∈ ns, 1 ≤ a ∧ a ≤ 64) (most : Int) (hm : 0 ≤ most ∧ most ≤ 1048576) (d : Option Nat) (m : Mem) : pcall (AP cfg) d m 27 [IA z o ns, .int .i64 most] = some (.int .i64 (placesF most 1 ns), m) := by
  rw [pcall2 (fz_IA z o ns) (fz_int _ _), V27 z _ ns hl hb most hm]; rfl
/-! ### few -/
theorem app_ints (m : Mem) (z : Bool) (o : Own) (ns : List Int) (hl : ns.length ≤ 1000000) : ∃ o' m', appA none false 3 none 8 m (.lst none false .full []) (IA z o ns) = some (IA false o' ns, m') ∧ Fr m m' [] ∧ (o' = .full ∧ ns = [] ∨ o' = .tok m.length 3) := by
  cases ns with
  | nil => exact ⟨.full, m, rfl, Fr.refl _ _, .inl ⟨rfl, rfl⟩⟩
  | cons n ns =>
    have hb : (0 + (ns.length + 1)) * 8 ≤ roomA := by unfold roomA; simp at hl; omega
    refine ⟨.tok m.length 3, m ++ [some (Ent.tok (0 + (ns.length + 1)) 1)], ?_, Fr.app m _ _, .inr rfl⟩
    simp only [appA, List.map_cons, List.length_nil, List.length_cons, List.length_map, hb, if_true, or_true, Bool.false_eq_true, if_false, newAt, List.nil_append, Sh.size]
    rfl
theorem slice_IA (z : Bool) (o : Own) (ns : List Int) (k : IntKind) (i : Nat) (h : i ≤ ns.length) : sliceT none (IA z o ns) none (some (.int k i)) none = some (IA z .no (ns.take i)) := by
  simp [sliceT, sliceA, boundA, h, List.map_take]
def goodArms (r : List Int) : Prop := armsE r = 0 → placesF 300 1 r ≠ 0
theorem W11 : ∀ (n : Nat) (r : List Int) (o : Own) (m : Mem), r.length = n → armsE r = 0 → ∃ o' r' m', L11_4 (IA false o r) m (K11_4 (finK cfg.P f11.results.toList)) = some (IA false o' r', m') ∧ armsE r' = 0 ∧ placesF 300 1 r' ≠ 0
  | 0, r, o, m, hn, hr => by
    obtain rfl : r = [] := List.eq_nil_of_length_eq_zero hn
    refine ⟨o, [], m, ?_, hr, by decide⟩
    rw [L11_4_eq, len_IA, Option.bind_some, binA_gtr, Option.bind_some, ifA_dec, if_neg (by simp), K11_4_x0]
  | n + 1, r, o, m, hn, hr => by
    obtain ⟨h1, h2⟩ := armsE_ok hr
    rw [L11_4_eq, len_IA, Option.bind_some, binA_gtr, Option.bind_some, ifA_dec, if_pos (by omega), pc27 _ _ _ h1 h2 300 (by omega), Option.bind_some, binA_eql, Option.bind_some, ifA_dec]
    by_cases hp : placesF 300 1 r = 0
    · rw [if_pos hp, Option.bind_some, i_sub1 (by omega) (by omega), Option.bind_some, slice_IA _ _ _ _ _ (by omega), Option.bind_some]
      refine W11 n (r.take (r.length - 1)) .no m (by rw [List.length_take]; omega) ?_
      unfold armsE
      rw [if_neg (by rw [List.length_take]; omega), if_pos]
      exact List.all_eq_true.2 fun a ha => decide_eq_true (h2 a (List.take_subset _ _ ha))
    · rw [if_neg hp, K11_4_x0]
      exact ⟨o, r, m, rfl, hr, hp⟩
theorem V11 (z : Bool) (o : Own) (ns : List Int) : ∃ o' r, AP cfg 11 [IA z o ns] = some (IA false o' r) ∧ goodArms r ∧ r.length ≤ 17 ∧ (o' = .no ∨ o' = .full) := by
  have key : ∃ o' r m', AC cfg 11 [IA z o ns] [] = some (IA false o' r, m') ∧ goodArms r ∧ r.length ≤ 17 := by
    have hmin : maxA false (.int .i64 ns.length) (.int .i64 17) = some (.int .i64 (min ns.length 17 : Nat)) := by
      simp only [maxA, if_true, Bool.false_eq_true, if_false]
      congr 2
      split <;> omega
    obtain ⟨o1, m1, ha, _, _⟩ := app_ints [] z .no (ns.take (min ns.length 17)) (by rw [List.length_take]; omega)
    have e0 : AC cfg 11 [IA z o ns] [] = ifA (.bool (decide (armsE (ns.take (min ns.length 17)) ≠ 0))) (some (IA false o1 (ns.take (min ns.length 17)), m1)) (L11_4 (IA false o1 (ns.take (min ns.length 17))) m1 (K11_4 (finK cfg.P f11.results.toList))) := by
      rw [T11, show buildSliceA none [] = some (.lst none false .full []) from rfl, Option.bind_some, len_IA, Option.bind_some, hmin, Option.bind_some, slice_IA _ _ _ _ _ (by omega), Option.bind_some, ha, Option.bind_some, pc12, Option.bind_some, binA_neq, Option.bind_some]
    rw [e0, ifA_dec]
    by_cases hz : armsE (ns.take (min ns.length 17)) ≠ 0
    · rw [if_pos hz]
      exact ⟨_, _, _, rfl, fun h => absurd h hz, by rw [List.length_take]; omega⟩
    · rw [if_neg hz]
      obtain ⟨o', r', m', e, h1, h2⟩ := W11 _ _ o1 m1 rfl (Decidable.not_not.1 hz)
      exact ⟨o', r', m', e, fun _ => h2, by have := (armsE_ok h1).1; omega⟩
  obtain ⟨o', r, m', e, h1, h2⟩ := key
  refine ⟨o'.fr, r, ?_, h1, h2, ?_⟩
  · unfold AP acallP
    rw [e, Option.bind_some, fz_IA false o' r m', Option.bind_some]
    rfl
  · cases o' <;> simp [Own.fr]
/-! ### Nodes of the reference: one, sameNode, SameList -/
theorem W19 (z : Bool) (o : Own) (k0 : Int) (ks : List Int) (hl : (k0 :: ks).length ≤ 1000) (m : Mem) : ∀ j i : Nat, i + j = (k0 :: ks).length →
    L19_2 (IA z o (k0 :: ks)) (IA z o (k0 :: ks)) (.int .i64 (k0 :: ks).length) (.int .i64 i) m (K19_2 (finK cfg.P f19.results.toList)) = some (.bool (((k0 :: ks).drop i).all fun k => k == k0), m)
  | 0, i, h => by
    rw [L19_2_eq, binA_lss, Option.bind_some, ifA_dec, if_neg (by omega), List.drop_eq_nil_of_le (by omega), K19_2_x0]; rfl
  | j + 1, i, h => by
    have hi : i < (k0 :: ks).length := by omega
    rw [L19_2_eq, binA_lss, Option.bind_some, ifA_dec, if_pos (by omega), idx_IA hi, Option.bind_some, loadA_one, Option.bind_some, idx_IA0 (by simp), Option.bind_some, loadA_one, Option.bind_some, binA_neq, Option.bind_some, ifA_dec, List.drop_eq_getElem_cons hi, List.all_cons]
    by_cases he : (k0 :: ks)[i] = k0
    · rw [if_neg (by simpa using he), i_add1 (by omega), Option.bind_some, W19 z o k0 ks hl m j (i + 1) (by omega), show ((k0 :: ks)[i] == k0) = true by simpa using he, Bool.true_and]
    · rw [if_pos (by simpa using he), K19_2_ret, show ((k0 :: ks)[i] == k0) = false by simpa using he, Bool.false_and]
theorem V19 (z : Bool) (o : Own) (ks : List Int) (hne : ks ≠ []) (hl : ks.length ≤ 1000) : AP cfg 19 [IA z o ks] = some (.bool (ks.all fun k => k == ks.headD 0)) := by
  obtain ⟨k0, ks, rfl⟩ := List.exists_cons_of_ne_nil hne
  refine AP_of (m := []) (v := .bool ((k0 :: ks).all fun k => k == k0)) (l := []) ?_ rfl rfl
  rw [T19, len_IA, Option.bind_some, show (AV.int .i64 0) = .int .i64 ((0 : Nat) : Int) from rfl, W19 z o k0 ks hl [] (k0 :: ks).length 0 (by omega), List.drop_zero]
theorem pc19 (z : Bool) (o : Own) (ks : List Int) (hne : ks ≠ []) (hl : ks.length ≤ 1000) (m : Mem) : pcall (AP cfg) none m 19 [IA z o ks] = some (.bool (ks.all fun k => k == ks.headD 0), m) := by
  rw [pcall1 (fz_IA z o ks), V19 z _ ks hne hl]; rfl
/-- The kids as a row. -/
def kz (n : ND) : Bool := if n.var < 0 then true else false
def ko (n : ND) : Own := if n.var < 0 then .full else .no
theorem kids_IA {n : ND} (h : n.ok) : kidsA n = IA (kz n) (ko n) n.kids := by
  unfold kidsA kz ko
  split
  · rename_i hv
    rcases h with ⟨_, h2, _⟩ | ⟨h1, _⟩
    · rw [h2]; rfl
    · omega
  · rfl
theorem W60 {m : Mem} {b1 b2 : Nat} {a1 a2 c1 c2 : AV} {z1 z2 : Bool} {o1 o2 : Own} {k1 k2 : List Int} (hb1 : m.get b1 = some (Ent.obj true [a1, IA z1 o1 k1, c1])) (hb2 : m.get b2 = some (Ent.obj true [a2, IA z2 o2 k2, c2])) (hl : k1.length = k2.length) (hl2 : k1.length ≤ 100000) : ∀ j i : Nat, i + j = k1.length →
    L60_4 (.ptr b1 0) (.ptr b2 0) (.int .i64 k1.length) (.int .i64 i) m (K60_4 (finK cfg.P f60.results.toList)) = some (.bool (decide (k1.drop i = k2.drop i)), m)
  | 0, i, h => by
    rw [L60_4_eq, binA_lss, Option.bind_some, ifA_dec, if_neg (by omega), List.drop_eq_nil_of_le (by omega), List.drop_eq_nil_of_le (by omega), K60_4_x0]; rfl
  | j + 1, i, h => by
    have hi : i < k1.length := by omega
    have hi2 : i < k2.length := by omega
    have x1 := idx_IA (z := z1) (o := o1) (k := .i64) hi
    have x2 := idx_IA (z := z2) (o := o2) (k := .i64) hi2
    have ih := W60 hb1 hb2 hl hl2 j (i + 1) (by omega)
    rw [L60_4_eq, binA_lss, Option.bind_some, ifA_dec, if_pos (by omega)]
    repeat ((with_reducible (first | apply bs | apply bsy)); (focus (first | (simp (disch := (first | assumption | omega | (simp only [List.length_append, List.length_set, List.length_cons, List.length_nil]; first | done | omega))) only [List.all_cons, List.all_nil, Bool.and_true, Bool.and_self, beq_self_eq_true, resv1, List.length_map, ld_v3, ld_v1, binA_eql, binA_neq, binA_lss, binA_leq, binA_gtr, binA_geq, loadA_one, un_not, ld_ptr, st_ptr, putE1, objE_obj, Option.bind_some, cut1, cut3, cut4, nil_ptr, fa_ptr, g_lt, g_eq, g_sne, g_seq, new_n, box_n, List.getElem?_cons_zero, List.getElem?_cons_succ, ex0, ex1, Sh.size, cells_int, aok_int, cells_bool, aok_bool, cells_str, aok_str, cells_lst, aok_lst, cells_ptr, aok_ptr, cells_arr, aok_arr, cells_fn, aok_fn, cells_mref, aok_mref, cells_nilp, aok_nilp, cells_agg, shOk_n, shOk_s, lenA_lst, List.length_cons, List.length_nil, if_true, putAt, List.take_succ_cons, List.take_zero, List.drop_succ_cons, List.drop_zero, List.cons_append, List.nil_append, List.append_nil, Nat.zero_add, Nat.reduceAdd, Nat.reduceLeDiff, Nat.le_refl, List.drop_nil, List.take_nil, List.length_append, List.length_set, hb1, hb2, x1, x2]; first | done | rfl) | rfl)); try dsimp only)
    rw [ifA_dec, List.drop_eq_getElem_cons hi, List.drop_eq_getElem_cons hi2]
    by_cases he : k1[i] = k2[i]
    · rw [if_neg (by simpa using he), i_add1 (by omega), Option.bind_some, ih]
      congr 3
      exact decide_eq_decide.2 (by rw [he]; exact ⟨fun e => by rw [e], fun e => (List.cons.inj e).2⟩)
    · rw [if_pos he, K60_4_ret]
      congr 3
      exact (decide_eq_false (fun e => he (List.cons.inj e).1)).symm
theorem V60 {a b : ND} (ha : a.ok) (hb : b.ok) : AP cfg 60 [a.av, b.av] = some (.bool (decide (a = b))) := by
  have hav : a.av = .agg [.int .i64 a.var, IA (kz a) (ko a) a.kids, .int .i64 a.leaf] := by rw [ND.av, kids_IA ha]
  have hbv : b.av = .agg [.int .i64 b.var, IA (kz b) (ko b) b.kids, .int .i64 b.leaf] := by rw [ND.av, kids_IA hb]
  have hl : ∀ {n : ND}, n.ok → n.kids.length ≤ 64 := fun h => by
    rcases h with ⟨_, h2, _⟩ | ⟨_, _, _, _, h5⟩
    · rw [h2]; simp
    · exact h5
  have l1 := hl ha; have l2 := hl hb
  rw [hav, hbv]
  have key : AC cfg 60 [.agg [.int .i64 a.var, IA (kz a) (ko a) a.kids, .int .i64 a.leaf], .agg [.int .i64 b.var, IA (kz b) (ko b) b.kids, .int .i64 b.leaf]] [] = some (.bool (decide (a = b)), [some (Ent.obj true [.int .i64 a.var, IA (kz a) (ko a) a.kids, .int .i64 a.leaf]), some (Ent.obj true [.int .i64 b.var, IA (kz b) (ko b) b.kids, .int .i64 b.leaf])]) := by
    rw [T60]
    repeat ((with_reducible (first | apply bs | apply bsy)); (focus (first | (simp (disch := (first | assumption | omega | (simp only [List.length_append, List.length_set, List.length_cons, List.length_nil]; first | done | omega))) only [List.all_cons, List.all_nil, Bool.and_true, Bool.and_self, beq_self_eq_true, resv1, List.length_map, ld_v3, ld_v1, binA_eql, binA_neq, binA_lss, binA_leq, binA_gtr, binA_geq, loadA_one, un_not, ld_ptr, st_ptr, putE1, objE_obj, Option.bind_some, cut1, cut3, cut4, nil_ptr, fa_ptr, g_lt, g_eq, g_sne, g_seq, new_n, box_n, List.getElem?_cons_zero, List.getElem?_cons_succ, ex0, ex1, Sh.size, cells_int, aok_int, cells_bool, aok_bool, cells_str, aok_str, cells_lst, aok_lst, cells_ptr, aok_ptr, cells_arr, aok_arr, cells_fn, aok_fn, cells_mref, aok_mref, cells_nilp, aok_nilp, cells_agg, shOk_n, shOk_s, lenA_lst, List.length_cons, List.length_nil, if_true, putAt, List.take_succ_cons, List.take_zero, List.drop_succ_cons, List.drop_zero, List.cons_append, List.nil_append, List.append_nil, Nat.zero_add, Nat.reduceAdd, Nat.reduceLeDiff, Nat.le_refl, List.drop_nil, List.take_nil, List.length_append, List.length_set, box_nd3, len_IA]; first | done | rfl) | rfl)); try dsimp only)
    rw [ifA_dec]
    by_cases h1 : a.var = b.var
    · rw [if_neg (by simpa using h1)]
      repeat ((with_reducible (first | apply bs | apply bsy)); (focus (first | (simp (disch := (first | assumption | omega | (simp only [List.length_append, List.length_set, List.length_cons, List.length_nil]; first | done | omega))) only [List.all_cons, List.all_nil, Bool.and_true, Bool.and_self, beq_self_eq_true, resv1, List.length_map, ld_v3, ld_v1, binA_eql, binA_neq, binA_lss, binA_leq, binA_gtr, binA_geq, loadA_one, un_not, ld_ptr, st_ptr, putE1, objE_obj, Option.bind_some, cut1, cut3, cut4, nil_ptr, fa_ptr, g_lt, g_eq, g_sne, g_seq, new_n, box_n, List.getElem?_cons_zero, List.getElem?_cons_succ, ex0, ex1, Sh.size, cells_int, aok_int, cells_bool, aok_bool, cells_str, aok_str, cells_lst, aok_lst, cells_ptr, aok_ptr, cells_arr, aok_arr, cells_fn, aok_fn, cells_mref, aok_mref, cells_nilp, aok_nilp, cells_agg, shOk_n, shOk_s, lenA_lst, List.length_cons, List.length_nil, if_true, putAt, List.take_succ_cons, List.take_zero, List.drop_succ_cons, List.drop_zero, List.cons_append, List.nil_append, List.append_nil, Nat.zero_add, Nat.reduceAdd, Nat.reduceLeDiff, Nat.le_refl, List.drop_nil, List.take_nil, List.length_append, List.length_set, box_nd3, len_IA]; first | done | rfl) | rfl)); try dsimp only)
      rw [ifA_dec]
      by_cases h2 : a.leaf = b.leaf
      · rw [if_neg (by simpa using h2)]
        repeat ((with_reducible (first | apply bs | apply bsy)); (focus (first | (simp (disch := (first | assumption | omega | (simp only [List.length_append, List.length_set, List.length_cons, List.length_nil]; first | done | omega))) only [List.all_cons, List.all_nil, Bool.and_true, Bool.and_self, beq_self_eq_true, resv1, List.length_map, ld_v3, ld_v1, binA_eql, binA_neq, binA_lss, binA_leq, binA_gtr, binA_geq, loadA_one, un_not, ld_ptr, st_ptr, putE1, objE_obj, Option.bind_some, cut1, cut3, cut4, nil_ptr, fa_ptr, g_lt, g_eq, g_sne, g_seq, new_n, box_n, List.getElem?_cons_zero, List.getElem?_cons_succ, ex0, ex1, Sh.size, cells_int, aok_int, cells_bool, aok_bool, cells_str, aok_str, cells_lst, aok_lst, cells_ptr, aok_ptr, cells_arr, aok_arr, cells_fn, aok_fn, cells_mref, aok_mref, cells_nilp, aok_nilp, cells_agg, shOk_n, shOk_s, lenA_lst, List.length_cons, List.length_nil, if_true, putAt, List.take_succ_cons, List.take_zero, List.drop_succ_cons, List.drop_zero, List.cons_append, List.nil_append, List.append_nil, Nat.zero_add, Nat.reduceAdd, Nat.reduceLeDiff, Nat.le_refl, List.drop_nil, List.take_nil, List.length_append, List.length_set, box_nd3, len_IA]; first | done | rfl) | rfl)); try dsimp only)
        rw [ifA_dec]
        by_cases h3 : a.kids.length = b.kids.length
        · rw [if_neg (by omega)]
          repeat ((with_reducible (first | apply bs | apply bsy)); (focus (first | (simp (disch := (first | assumption | omega | (simp only [List.length_append, List.length_set, List.length_cons, List.length_nil]; first | done | omega))) only [List.all_cons, List.all_nil, Bool.and_true, Bool.and_self, beq_self_eq_true, resv1, List.length_map, ld_v3, ld_v1, binA_eql, binA_neq, binA_lss, binA_leq, binA_gtr, binA_geq, loadA_one, un_not, ld_ptr, st_ptr, putE1, objE_obj, Option.bind_some, cut1, cut3, cut4, nil_ptr, fa_ptr, g_lt, g_eq, g_sne, g_seq, new_n, box_n, List.getElem?_cons_zero, List.getElem?_cons_succ, ex0, ex1, Sh.size, cells_int, aok_int, cells_bool, aok_bool, cells_str, aok_str, cells_lst, aok_lst, cells_ptr, aok_ptr, cells_arr, aok_arr, cells_fn, aok_fn, cells_mref, aok_mref, cells_nilp, aok_nilp, cells_agg, shOk_n, shOk_s, lenA_lst, List.length_cons, List.length_nil, if_true, putAt, List.take_succ_cons, List.take_zero, List.drop_succ_cons, List.drop_zero, List.cons_append, List.nil_append, List.append_nil, Nat.zero_add, Nat.reduceAdd, Nat.reduceLeDiff, Nat.le_refl, List.drop_nil, List.take_nil, List.length_append, List.length_set, box_nd3, len_IA]; first | done | rfl) | rfl)); try dsimp only)
          have w := W60 (m := [some (Ent.obj true [.int .i64 a.var, IA (kz a) (ko a) a.kids, .int .i64 a.leaf])] ++ [some (Ent.obj true [.int .i64 b.var, IA (kz b) (ko b) b.kids, .int .i64 b.leaf])]) (b1 := 0) (b2 := 1) rfl rfl h3 (by omega) a.kids.length 0 (by omega)
          rw [List.drop_zero, List.drop_zero] at w
          refine w.trans ?_
          congr 3
          refine decide_eq_decide.2 ⟨fun e => ?_, fun e => by rw [e]⟩
          obtain ⟨av, ak, al⟩ := a
          obtain ⟨bv, bk, bl⟩ := b
          simp only at h1 h2 e
          rw [h1, h2, e]
        · rw [if_pos (by omega)]
          congr 3
          exact (decide_eq_false (fun e => h3 (by rw [e]))).symm
      · rw [if_pos h2]
        congr 3
        exact (decide_eq_false (fun e => h2 (by rw [e]))).symm
    · rw [if_pos h1]
      congr 3
      exact (decide_eq_false (fun e => h1 (by rw [e]))).symm
  refine AP_of key rfl rfl
theorem fz_av (n : ND) : Fz n.av n.av := fun m => by
  unfold ND.av kidsA
  split <;> rfl
theorem pc60 {a b : ND} (ha : a.ok) (hb : b.ok) (d : Option Nat) (m : Mem) : pcall (AP cfg) d m 60 [a.av, b.av] = some (.bool (decide (a = b)), m) := by
  rw [pcall2 (fz_av a) (fz_av b), V60 ha hb]; rfl
/-- A row of nodes. -/
abbrev NL (z : Bool) (o : Own) (l : List ND) : AV := .lst (some 3) z o (l.map ND.av)
theorem fz_NL (z : Bool) (o : Own) (l : List ND) : Fz (NL z o l) (NL z o.fr l) := fun m => by cases o <;> rfl
theorem len_NL (z : Bool) (o : Own) (l : List ND) : lenA false (NL z o l) = some (.int .i64 l.length) := by rw [lenA_lst, List.length_map]
theorem idx_NL {z : Bool} {o : Own} {l : List ND} {i : Nat} (hi : i < l.length) : indexAddrA (some 3) (NL z o l) (.int .i64 i) = some (.vptr [.int .i64 l[i].var, kidsA l[i], .int .i64 l[i].leaf]) := by
  simp [indexAddrA, hi]; rfl
theorem ldn (m : Mem) (n : ND) : loadA (some 3) m (.vptr [.int .i64 n.var, kidsA n, .int .i64 n.leaf]) = some n.av := rfl
theorem W22 (z1 z2 : Bool) (o1 o2 : Own) (l1 l2 : List ND) (h1 : ∀ x ∈ l1, x.ok) (h2 : ∀ x ∈ l2, x.ok) (hl : l1.length = l2.length) (hl2 : l1.length ≤ 100000) (m : Mem) : ∀ j i : Nat, i + j = l1.length →
    L22_4 (NL z1 o1 l1) (NL z2 o2 l2) (.int .i64 l1.length) (.int .i64 i) m (K22_4 (finK cfg.P f22.results.toList)) = some (.bool (decide (l1.drop i = l2.drop i)), m)
  | 0, i, h => by
    rw [L22_4_eq, binA_lss, Option.bind_some, ifA_dec, if_neg (by omega), List.drop_eq_nil_of_le (by omega), List.drop_eq_nil_of_le (by omega), K22_4_x0]; rfl
  | j + 1, i, h => by
    have hi : i < l1.length := by omega
    have hi2 : i < l2.length := by omega
    rw [L22_4_eq, binA_lss, Option.bind_some, ifA_dec, if_pos (by omega), idx_NL hi, Option.bind_some, ldn, Option.bind_some, idx_NL hi2, Option.bind_some, ldn, Option.bind_some, pc60 (h1 _ (List.getElem_mem hi)) (h2 _ (List.getElem_mem hi2)), Option.bind_some, un_not, Option.bind_some, List.drop_eq_getElem_cons hi, List.drop_eq_getElem_cons hi2]
    by_cases he : l1[i] = l2[i]
    · rw [decide_eq_true he, Bool.not_true, ifA_f, i_add1 (by omega), Option.bind_some, W22 z1 z2 o1 o2 l1 l2 h1 h2 hl hl2 m j (i + 1) (by omega)]
      congr 3
      exact decide_eq_decide.2 (by rw [he]; exact ⟨fun e => by rw [e], fun e => (List.cons.inj e).2⟩)
    · rw [decide_eq_false he, Bool.not_false, ifA_t, K22_4_ret]
      congr 3
      exact (decide_eq_false (fun e => he (List.cons.inj e).1)).symm
theorem V22 (z1 z2 : Bool) (o1 o2 : Own) (l1 l2 : List ND) (h1 : ∀ x ∈ l1, x.ok) (h2 : ∀ x ∈ l2, x.ok) (hl2 : l1.length ≤ 100000) : AP cfg 22 [NL z1 o1 l1, NL z2 o2 l2] = some (.bool (decide (l1 = l2))) := by
  refine AP_of (m := []) (v := .bool (decide (l1 = l2))) (l := []) ?_ rfl rfl
  rw [T22, len_NL, Option.bind_some, len_NL, Option.bind_some, binA_neq, Option.bind_some, ifA_dec]
  by_cases hl : l1.length = l2.length
  · rw [if_neg (by omega), Option.bind_some, show (AV.int .i64 0) = .int .i64 ((0 : Nat) : Int) from rfl, W22 z1 z2 o1 o2 l1 l2 h1 h2 hl hl2 [] l1.length 0 (by omega), List.drop_zero, List.drop_zero]
  · rw [if_pos (by omega), decide_eq_false (fun e => hl (by rw [e]))]
theorem pc22 (z1 z2 : Bool) (o1 o2 : Own) (l1 l2 : List ND) (h1 : ∀ x ∈ l1, x.ok) (h2 : ∀ x ∈ l2, x.ok) (hl2 : l1.length ≤ 100000) (d : Option Nat) (m : Mem) : pcall (AP cfg) d m 22 [NL z1 o1 l1, NL z2 o2 l2] = some (.bool (decide (l1 = l2)), m) := by
  rw [pcall2 (fz_NL z1 o1 l1) (fz_NL z2 o2 l2), V22 z1 z2 _ _ l1 l2 h1 h2 hl2]; rfl
/-! ### may -/
theorem W18 (z2 : Bool) (o2 : Own) (l : List ND) (x1 : AV) (hx1 : lenA false x1 = some (.int .i64 l.length)) (hx2 : ∀ (t : Nat) (ht : t < l.length), indexAddrA (some 3) x1 (.int .i64 t) = some (.vptr [.int .i64 l[t].var, kidsA l[t], .int .i64 l[t].leaf])) (v : Int) (ks : List Int) (a : Nat) (hv : 0 ≤ v ∧ v < a) (hok : ∀ x ∈ l, x.ok) (hl : l.length ≤ 100000 ∧ ks.length ≤ 1000) (m : Mem) : ∀ j i : Nat, i + j = ks.length →
    L18_4 x1 (.int .i64 v) (IA z2 o2 ks) (.int .i64 ks.length) (.int .i64 i) m (K18_4 (finK cfg.P f18.results.toList)) = some (.bool ((ks.drop i).all (kidOk a l v)), m)
  | 0, i, h => by
    rw [L18_4_eq, binA_lss, Option.bind_some, ifA_dec, if_neg (by omega), List.drop_eq_nil_of_le (by omega), K18_4_x0]; rfl
  | j + 1, i, h => by
    have hi : i < ks.length := by omega
    have ih := W18 z2 o2 l x1 hx1 hx2 v ks a hv hok hl m j (i + 1) (by omega)
    rw [L18_4_eq, binA_lss, Option.bind_some, ifA_dec, if_pos (by omega), idx_IA hi, Option.bind_some, loadA_one, Option.bind_some, binA_lss, Option.bind_some, ifA_dec, List.drop_eq_getElem_cons hi, List.all_cons]
    have bad : ¬ (0 ≤ ks[i] ∧ ks[i] < l.length) → kidOk a l v ks[i] = false := fun hb => by unfold kidOk; rw [decide_eq_false hb, Bool.false_and]
    by_cases h0 : ks[i] < 0
    · rw [if_pos h0, K18_4_ret, bad (by omega), Bool.false_and]
    rw [if_neg h0, hx1, Option.bind_some, binA_geq, Option.bind_some, ifA_dec]
    by_cases h1 : ks[i] ≥ l.length
    · rw [if_pos h1, K18_4_ret, bad (by omega), Bool.false_and]
    rw [if_neg h1]
    generalize ks[i] = k at *
    obtain ⟨t, rfl⟩ := Int.eq_ofNat_of_zero_le (by omega : 0 ≤ k)
    have ht : t < l.length := by omega
    have hko : kidOk a l v t = decide (v < abv a l[t]) := by
      unfold kidOk
      rw [decide_eq_true (by omega), Bool.true_and, Int.toNat_natCast, List.getD_eq_getElem?_getD, List.getElem?_eq_getElem ht, Option.getD_some]
    have fa : fieldAddrA 0 (.vptr [.int .i64 l[t].var, kidsA l[t], .int .i64 l[t].leaf]) = some (.vptr [.int .i64 l[t].var, kidsA l[t], .int .i64 l[t].leaf]) := rfl
    rw [hx2 t ht, Option.bind_some, fa, Option.bind_some, ld_v1, Option.bind_some, binA_neq, Option.bind_some, ifA_dec, hko]
    have hlt := hok _ (List.getElem_mem ht)
    by_cases hm1 : l[t].var ≠ -1
    · have hvn : 0 ≤ l[t].var := by
        rcases hlt with ⟨h1, _⟩ | ⟨h1, _⟩
        · exact absurd h1 hm1
        · exact h1
      rw [if_pos hm1, Option.bind_some, fa, Option.bind_some, ld_v1, Option.bind_some, binA_leq, Option.bind_some, ifA_dec, abv, if_pos hvn]
      by_cases hle : l[t].var ≤ v
      · rw [if_pos hle, K18_4_ret, decide_eq_false (by omega), Bool.false_and]
      · rw [if_neg hle, i_add1 (by omega), Option.bind_some, ih, decide_eq_true (by omega), Bool.true_and]
    · rw [if_neg hm1, i_add1 (by omega), Option.bind_some, ih, abv, if_neg (by omega), decide_eq_true (by omega), Bool.true_and]
def mayB (ar : List Int) (l : List ND) (v : Int) (ks : List Int) : Bool := decide (0 ≤ v ∧ v < ar.length ∧ (ks.length : Int) = ar.getD v.toNat 0) && ks.all (kidOk ar.length l v)
theorem V18 (z z2 : Bool) (o o2 : Own) (ar : List Int) (l : List ND) (x1 : AV) (hx1 : lenA false x1 = some (.int .i64 l.length)) (hx2 : ∀ (t : Nat) (ht : t < l.length), indexAddrA (some 3) x1 (.int .i64 t) = some (.vptr [.int .i64 l[t].var, kidsA l[t], .int .i64 l[t].leaf])) (v : Int) (ks : List Int) (hok : ∀ x ∈ l, x.ok) (hl : l.length ≤ 100000 ∧ ks.length ≤ 1000) :
    AP cfg 18 [IA z o ar, x1, .int .i64 v, IA z2 o2 ks] = some (.bool (mayB ar l v ks)) := by
  refine AP_of (m := []) (v := .bool (mayB ar l v ks)) (l := []) ?_ rfl (by simp [noV])
  unfold mayB
  rw [T18, binA_lss, Option.bind_some, ifA_dec]
  by_cases h0 : v < 0
  · rw [if_pos h0, decide_eq_false (by omega), Bool.false_and]
  rw [if_neg h0, len_IA, Option.bind_some, binA_geq, Option.bind_some, ifA_dec]
  by_cases h1 : v ≥ ar.length
  · rw [if_pos h1, decide_eq_false (by omega), Bool.false_and]
  rw [if_neg h1]
  obtain ⟨i, rfl⟩ := Int.eq_ofNat_of_zero_le (by omega : 0 ≤ v)
  have hi : i < ar.length := by omega
  have hai : ar.getD ((i : Int).toNat) 0 = ar[i] := by rw [Int.toNat_natCast, List.getD_eq_getElem?_getD, List.getElem?_eq_getElem hi, Option.getD_some]
  rw [len_IA, Option.bind_some, idx_IA hi, Option.bind_some, loadA_one, Option.bind_some, binA_neq, Option.bind_some, ifA_dec, hai]
  by_cases h2 : (ks.length : Int) = ar[i]
  · rw [if_neg (by omega), Option.bind_some, show (AV.int .i64 0) = .int .i64 ((0 : Nat) : Int) from rfl, W18 z2 o2 l x1 hx1 hx2 i ks ar.length (by omega) hok hl [] ks.length 0 (by omega), List.drop_zero, decide_eq_true (by omega), Bool.true_and]
  · rw [if_pos (by omega), decide_eq_false (by omega), Bool.false_and]
theorem pc18 (z z2 : Bool) (o o2 : Own) (ar : List Int) (l : List ND) (x x1 : AV) (hf : Fz x x1) (hx1 : lenA false x1 = some (.int .i64 l.length)) (hx2 : ∀ (t : Nat) (ht : t < l.length), indexAddrA (some 3) x1 (.int .i64 t) = some (.vptr [.int .i64 l[t].var, kidsA l[t], .int .i64 l[t].leaf])) (v : Int) (ks : List Int) (hok : ∀ x ∈ l, x.ok) (hl : l.length ≤ 100000 ∧ ks.length ≤ 1000) (d : Option Nat) (m : Mem) :
    pcall (AP cfg) d m 18 [IA z o ar, x, .int .i64 v, IA z2 o2 ks] = some (.bool (mayB ar l v ks), m) := by
  rw [pcall4 (fz_IA z o ar) hf (fz_int _ _) (fz_IA z2 o2 ks), V18 z z2 _ _ ar l x1 hx1 hx2 v ks hok hl]; rfl
theorem makeR_eq (ar : List Int) (l : List ND) (v : Int) (ks : List Int) : makeR ar l v ks = if mayB ar l v ks = true then (((nodeR l v ks).1, 0), (nodeR l v ks).2) else ((0, 1), l) := by
  unfold makeR mayB
  congr 1
  simp only [Bool.and_eq_true, decide_eq_true_eq, eq_iff_iff]
  constructor
  · rintro ⟨a, b, c, d⟩; exact ⟨⟨a, b, c⟩, d⟩
  · rintro ⟨⟨a, b, c⟩, d⟩; exact ⟨a, b, c, d⟩
end Go.Ab

/- Node, New, alive, into, by value. -/
set_option linter.unusedVariables false
set_option linter.unusedSimpArgs false
set_option linter.unusedSectionVars false
set_option maxRecDepth 100000
namespace Go.Ab
open Go.Proofs Go.Proofs.Tryd

theorem st_agg3 {m : Mem} {k : Nat} {a b c a' b' c' : AV} (h : m.get k = some (Ent.obj true [a, b, c])) (hs : shOk (some 3) (.agg [a', b', c']) = true) : storeA (some 3) m (.ptr k 0) (.agg [a', b', c']) = some (m.set k (some (Ent.obj true [a', b', c']))) := by
  rw [st_ptr, h, objE_obj, Option.bind_some]
  simp [putE1, Sh.size, hs, putAt, AV.cells]
theorem sh_i (a b : Int) (z : Bool) (o : Own) (es : List AV) : shOk (some 3) (.agg [.int .i64 a, .lst none z o es, .int .i64 b]) = true := rfl
section
variable {m : Mem} {s : Nat} {F : List Nat} {arms : AV} {most : Int} {l : List ND}
theorem clA_kids {n : ND} (h : n.ok) (hne : ¬ n.var < 0 → n.kids ≠ []) : clA (kz n) n.kids = kidsA n := by
  unfold clA kz kidsA
  by_cases hv : n.var < 0
  · rw [if_pos hv, if_pos rfl, if_pos hv]
  · rw [if_neg hv, if_neg (by simp), if_neg hv, if_neg (hne hv)]
/-- Node: what it gives. -/
def nodeV (l : List ND) (i : Int) : AV × Int := if 0 ≤ i ∧ i < l.length then ((l.getD i.toNat ⟨0, [], 0⟩).av, 0) else (.agg [.int .i64 0, .lst none true .full [], .int .i64 0], 1)
def kidsNe (l : List ND) : Prop := ∀ n ∈ l, ¬ n.var < 0 → n.kids ≠ []
theorem A21 (h : St8 m s F arms most l) (hm : most ≠ 0) (hk : kidsNe l) (i : Int) : ∃ m', AC cfg 21 [.ptr s 0, .int .i64 i] m = some (.tup [(nodeV l i).1, .int .i64 (nodeV l i).2], m') ∧ Fr m m' [] := by
  have f1 : Fr m (m ++ [some (Ent.obj true [.int .i64 0, .lst none true .full [], .int .i64 0])]) [] := Fr.app m _ _
  have h1 := h.app f1
  have e50 := A50 h1 hm
  have e56 := A56 h1 i
  have hs : ∃ na p T, Mem.get m s = some (Ent.obj true [arms, na, .mref p, .int .i64 most]) ∧ NA m na l T ∧ ∀ x ∈ l, x.ok := by
    obtain ⟨p, na, T, h, rfl⟩ := h
    exact ⟨na, p, T, h.hs, h.hn, h.ok⟩
  obtain ⟨na, p, T, hs, hna, hok⟩ := hs
  have hsl := get_lt hs
  by_cases hi : 0 ≤ i ∧ i < l.length
  · have hd : decide (0 ≤ i ∧ i < l.length) = true := decide_eq_true hi
    obtain ⟨t, rfl⟩ := Int.eq_ofNat_of_zero_le hi.1
    have ht : t < l.length := by omega
    have hnv : nodeV l t = (l[t].av, 0) := by rw [nodeV, if_pos hi, Int.toNat_natCast, List.getD_eq_getElem?_getD, List.getElem?_eq_getElem ht, Option.getD_some]
    have hidx := na_idx hna ht
    have hto := hok _ (List.getElem_mem ht)
    have bx := box_av l[t] (m ++ [some (Ent.obj true [.int .i64 0, .lst none true .full [], .int .i64 0])]) (get_len _)
    simp only [List.length_append, List.length_cons, List.length_nil, Nat.zero_add] at bx
    have kk := kids_IA hto
    have hl64 : l[t].kids.length ≤ 1000000 := by
      rcases hto with ⟨_, h2, _⟩ | ⟨_, _, _, _, h5⟩
      · rw [h2]; simp
      · omega
    have c49 := fun m => pc49 (kz l[t]) (ko l[t]) l[t].kids hl64 m
    rw [← kk, clA_kids hto (hk _ (List.getElem_mem ht))] at c49
    have oka := kidsA_ok l[t]
    have cel := kidsA_cells l[t]
    have e : ∃ m', AC cfg 21 [.ptr s 0, .int .i64 t] m = some (.tup [l[t].av, .int .i64 0], m') ∧ m' = List.set ((((m ++ [some (Ent.obj true [.int .i64 0, .lst none true .full [], .int .i64 0])]) ++ [some (Ent.obj true [.int .i64 l[t].var, kidsA l[t], .int .i64 l[t].leaf])]).set (m.length + 1) (some (Ent.obj true [.int .i64 l[t].var, kidsA l[t], .int .i64 l[t].leaf])))) m.length (some (Ent.obj true [.int .i64 l[t].var, kidsA l[t], .int .i64 l[t].leaf])) := by
      refine ⟨_, ?_, rfl⟩
      rw [T21]
      repeat ((with_reducible (first | apply bs | apply bsy)); (focus (first | (simp (disch := (first | assumption | omega | (simp only [List.length_append, List.length_set, List.length_cons, List.length_nil]; first | done | omega))) only [List.all_cons, List.all_nil, Bool.and_true, Bool.and_self, beq_self_eq_true, resv1, List.length_map, ld_v3, ld_v1, binA_eql, binA_neq, binA_lss, binA_leq, binA_gtr, binA_geq, loadA_one, un_not, ld_ptr, st_ptr, putE1, objE_obj, Option.bind_some, cut1, cut3, cut4, nil_ptr, fa_ptr, g_lt, g_eq, g_sne, g_seq, new_n, box_n, List.getElem?_cons_zero, List.getElem?_cons_succ, ex0, ex1, Sh.size, cells_int, aok_int, cells_bool, aok_bool, cells_str, aok_str, cells_lst, aok_lst, cells_ptr, aok_ptr, cells_arr, aok_arr, cells_fn, aok_fn, cells_mref, aok_mref, cells_nilp, aok_nilp, cells_agg, shOk_n, shOk_s, lenA_lst, List.length_cons, List.length_nil, if_true, putAt, List.take_succ_cons, List.take_zero, List.drop_succ_cons, List.drop_zero, List.cons_append, List.nil_append, List.append_nil, Nat.zero_add, Nat.reduceAdd, Nat.reduceLeDiff, Nat.le_refl, List.drop_nil, List.take_nil, List.length_append, List.length_set, e50]; first | done | rfl) | rfl)); try dsimp only)
      rw [ifA_f]
      repeat ((with_reducible (first | apply bs | apply bsy)); (focus (first | (simp (disch := (first | assumption | omega | (simp only [List.length_append, List.length_set, List.length_cons, List.length_nil]; first | done | omega))) only [List.all_cons, List.all_nil, Bool.and_true, Bool.and_self, beq_self_eq_true, resv1, List.length_map, ld_v3, ld_v1, binA_eql, binA_neq, binA_lss, binA_leq, binA_gtr, binA_geq, loadA_one, un_not, ld_ptr, st_ptr, putE1, objE_obj, Option.bind_some, cut1, cut3, cut4, nil_ptr, fa_ptr, g_lt, g_eq, g_sne, g_seq, new_n, box_n, List.getElem?_cons_zero, List.getElem?_cons_succ, ex0, ex1, Sh.size, cells_int, aok_int, cells_bool, aok_bool, cells_str, aok_str, cells_lst, aok_lst, cells_ptr, aok_ptr, cells_arr, aok_arr, cells_fn, aok_fn, cells_mref, aok_mref, cells_nilp, aok_nilp, cells_agg, shOk_n, shOk_s, lenA_lst, List.length_cons, List.length_nil, if_true, putAt, List.take_succ_cons, List.take_zero, List.drop_succ_cons, List.drop_zero, List.cons_append, List.nil_append, List.append_nil, Nat.zero_add, Nat.reduceAdd, Nat.reduceLeDiff, Nat.le_refl, List.drop_nil, List.take_nil, List.length_append, List.length_set, e56]; first | done | rfl) | rfl)); try dsimp only)
      rw [hd, Bool.not_true, ifA_f]
      repeat ((with_reducible (first | apply bs | apply bsy)); (focus (first | (simp (disch := (first | assumption | omega | (simp only [List.length_append, List.length_set, List.length_cons, List.length_nil]; first | done | omega))) only [List.all_cons, List.all_nil, Bool.and_true, Bool.and_self, beq_self_eq_true, resv1, List.length_map, ld_v3, ld_v1, binA_eql, binA_neq, binA_lss, binA_leq, binA_gtr, binA_geq, loadA_one, un_not, ld_ptr, st_ptr, putE1, objE_obj, Option.bind_some, cut1, cut3, cut4, nil_ptr, fa_ptr, g_lt, g_eq, g_sne, g_seq, new_n, box_n, List.getElem?_cons_zero, List.getElem?_cons_succ, ex0, ex1, Sh.size, cells_int, aok_int, cells_bool, aok_bool, cells_str, aok_str, cells_lst, aok_lst, cells_ptr, aok_ptr, cells_arr, aok_arr, cells_fn, aok_fn, cells_mref, aok_mref, cells_nilp, aok_nilp, cells_agg, shOk_n, shOk_s, lenA_lst, List.length_cons, List.length_nil, if_true, putAt, List.take_succ_cons, List.take_zero, List.drop_succ_cons, List.drop_zero, List.cons_append, List.nil_append, List.append_nil, Nat.zero_add, Nat.reduceAdd, Nat.reduceLeDiff, Nat.le_refl, List.drop_nil, List.take_nil, List.length_append, List.length_set, hs, hidx, bx, c49, oka, cel]; first | done | rfl) | rfl)); try dsimp only)
      rfl
    obtain ⟨m', e, rfl⟩ := e
    refine ⟨_, by rw [hnv]; exact e, ((f1.snoc _).set _ (.inr (by omega))).set _ (.inr (by omega))⟩
  · have hd : decide (0 ≤ i ∧ i < l.length) = false := decide_eq_false hi
    have hnv : nodeV l i = (.agg [.int .i64 0, .lst none true .full [], .int .i64 0], 1) := by rw [nodeV, if_neg hi]
    have hb : buildA (.agg [(.int .i64 0), (.lst none true .full []), (.int .i64 0)]) [] = some (.agg [(.int .i64 0), (.lst none true .full []), (.int .i64 0)]) := rfl
    have sa := st_agg3 (m := m ++ [some (Ent.obj true [.int .i64 0, .lst none true .full [], .int .i64 0])]) (k := m.length) (a := .int .i64 0) (b := .lst none true .full []) (c := .int .i64 0) (by simp (disch := (first | assumption | omega | (simp only [List.length_append, List.length_set, List.length_cons, List.length_nil]; first | done | omega))) only [resv1, g_lt, g_eq, g_sne, g_seq]; first | done | rfl) (sh_i 0 0 true .full [])
    refine ⟨_, ?_, f1.set (k := m.length) (some (Ent.obj true [.int .i64 0, .lst none true .full [], .int .i64 0])) (.inr (Nat.le_refl _))⟩
    rw [T21, hnv]
    repeat ((with_reducible (first | apply bs | apply bsy)); (focus (first | (simp (disch := (first | assumption | omega | (simp only [List.length_append, List.length_set, List.length_cons, List.length_nil]; first | done | omega))) only [List.all_cons, List.all_nil, Bool.and_true, Bool.and_self, beq_self_eq_true, resv1, List.length_map, ld_v3, ld_v1, binA_eql, binA_neq, binA_lss, binA_leq, binA_gtr, binA_geq, loadA_one, un_not, ld_ptr, st_ptr, putE1, objE_obj, Option.bind_some, cut1, cut3, cut4, nil_ptr, fa_ptr, g_lt, g_eq, g_sne, g_seq, new_n, box_n, List.getElem?_cons_zero, List.getElem?_cons_succ, ex0, ex1, Sh.size, cells_int, aok_int, cells_bool, aok_bool, cells_str, aok_str, cells_lst, aok_lst, cells_ptr, aok_ptr, cells_arr, aok_arr, cells_fn, aok_fn, cells_mref, aok_mref, cells_nilp, aok_nilp, cells_agg, shOk_n, shOk_s, lenA_lst, List.length_cons, List.length_nil, if_true, putAt, List.take_succ_cons, List.take_zero, List.drop_succ_cons, List.drop_zero, List.cons_append, List.nil_append, List.append_nil, Nat.zero_add, Nat.reduceAdd, Nat.reduceLeDiff, Nat.le_refl, List.drop_nil, List.take_nil, List.length_append, List.length_set, e50]; first | done | rfl) | rfl)); try dsimp only)
    rw [ifA_f]
    repeat ((with_reducible (first | apply bs | apply bsy)); (focus (first | (simp (disch := (first | assumption | omega | (simp only [List.length_append, List.length_set, List.length_cons, List.length_nil]; first | done | omega))) only [List.all_cons, List.all_nil, Bool.and_true, Bool.and_self, beq_self_eq_true, resv1, List.length_map, ld_v3, ld_v1, binA_eql, binA_neq, binA_lss, binA_leq, binA_gtr, binA_geq, loadA_one, un_not, ld_ptr, st_ptr, putE1, objE_obj, Option.bind_some, cut1, cut3, cut4, nil_ptr, fa_ptr, g_lt, g_eq, g_sne, g_seq, new_n, box_n, List.getElem?_cons_zero, List.getElem?_cons_succ, ex0, ex1, Sh.size, cells_int, aok_int, cells_bool, aok_bool, cells_str, aok_str, cells_lst, aok_lst, cells_ptr, aok_ptr, cells_arr, aok_arr, cells_fn, aok_fn, cells_mref, aok_mref, cells_nilp, aok_nilp, cells_agg, shOk_n, shOk_s, lenA_lst, List.length_cons, List.length_nil, if_true, putAt, List.take_succ_cons, List.take_zero, List.drop_succ_cons, List.drop_zero, List.cons_append, List.nil_append, List.append_nil, Nat.zero_add, Nat.reduceAdd, Nat.reduceLeDiff, Nat.le_refl, List.drop_nil, List.take_nil, List.length_append, List.length_set, e56]; first | done | rfl) | rfl)); try dsimp only)
    rw [hd, Bool.not_false, ifA_t]
    repeat ((with_reducible (first | apply bs | apply bsy)); (focus (first | (simp (disch := (first | assumption | omega | (simp only [List.length_append, List.length_set, List.length_cons, List.length_nil]; first | done | omega))) only [List.all_cons, List.all_nil, Bool.and_true, Bool.and_self, beq_self_eq_true, resv1, List.length_map, ld_v3, ld_v1, binA_eql, binA_neq, binA_lss, binA_leq, binA_gtr, binA_geq, loadA_one, un_not, ld_ptr, st_ptr, putE1, objE_obj, Option.bind_some, cut1, cut3, cut4, nil_ptr, fa_ptr, g_lt, g_eq, g_sne, g_seq, new_n, box_n, List.getElem?_cons_zero, List.getElem?_cons_succ, ex0, ex1, Sh.size, cells_int, aok_int, cells_bool, aok_bool, cells_str, aok_str, cells_lst, aok_lst, cells_ptr, aok_ptr, cells_arr, aok_arr, cells_fn, aok_fn, cells_mref, aok_mref, cells_nilp, aok_nilp, cells_agg, shOk_n, shOk_s, lenA_lst, List.length_cons, List.length_nil, if_true, putAt, List.take_succ_cons, List.take_zero, List.drop_succ_cons, List.drop_zero, List.cons_append, List.nil_append, List.append_nil, Nat.zero_add, Nat.reduceAdd, Nat.reduceLeDiff, Nat.le_refl, List.drop_nil, List.take_nil, List.length_append, List.length_set, hb, sa]; first | done | rfl) | rfl)); try dsimp only)
/-! ### New -/
theorem A48 (k : Int) (m : Mem) : AC cfg 48 [.int .i64 k] m = some (.bool (!armB k), m) := by
  rw [T48, binA_lss, Option.bind_some, ifA_dec]
  by_cases h1 : k < 1
  · rw [if_pos h1, armB, decide_eq_false (by omega)]; rfl
  · rw [if_neg h1, binA_gtr, Option.bind_some, armB, ← decide_not]
    congr 3
    exact decide_eq_decide.2 (by omega)
theorem clA_IA (z : Bool) (ns : List Int) (h : z = true → ns = []) : ∃ z' o', clA z ns = IA z' o' ns ∧ (o' = .no ∨ o' = .full) ∧ (z' = true → ns = []) := by
  cases z with
  | true => rw [h rfl]; exact ⟨true, .full, rfl, .inr rfl, fun _ => rfl⟩
  | false =>
    cases ns with
    | nil => exact ⟨false, .full, rfl, .inr rfl, fun h => by cases h⟩
    | cons n ns => exact ⟨false, .no, rfl, .inl rfl, fun h => by cases h⟩
theorem A14 (m : Mem) (z : Bool) (o : Own) (ns : List Int) (hz : z = true → ns = []) (he : armsE ns = 0) :
    ∃ m' s F z' o', AC cfg 14 [IA z o ns] m = some (.tup [.ptr s 0, .int .i64 0], m') ∧ St8 m' s F (IA z' o' ns) 4000 [] ∧ Fr m m' [] ∧ (∀ x ∈ F, m.length ≤ x) := by
  obtain ⟨h1, h2⟩ := armsE_ok he
  obtain ⟨m1, e47, f1⟩ := A47 (m := m) (z := z) (o := o) (ks := ns) (g := 48) (caps := []) (p := fun k => !armB k) (by omega) rfl rfl rfl (fun m1 k _ => ⟨m1, A48 k m1, Fr.refl _ _⟩)
  have ha : ns.all armB = true := List.all_eq_true.2 fun a ha => decide_eq_true (h2 a ha)
  rw [any_not, ha, Bool.not_true] at e47
  obtain ⟨z', o', ec, _, _⟩ := clA_IA z ns hz
  have c49 := fun m => pc49 z o ns (by omega) m
  rw [ec] at c49
  have l1 := f1.len
  refine ⟨(m1 ++ [some (Ent.mp .str [])]) ++ [some (Ent.obj true [IA z' o' ns, .lst none true .full [], .mref m1.length, .int .i64 4000])], m1.length + 1, [m1.length + 1, m1.length], z', o', ?_, ?_, (f1.snoc _).snoc _, ?_⟩
  · have hb : buildA (.agg [(.lst none true .full []), (.lst none true .full []), .any, (.int .i64 0)]) [(0, none, IA z' o' ns), (2, none, (.mref m1.length)), (3, none, (.int .i64 4000))] = some (.agg [IA z' o' ns, .lst none true .full [], .mref m1.length, .int .i64 4000]) := rfl
    have hx : ∀ m, boxA none (some 4) m (.agg [IA z' o' ns, .lst none true .full [], .mref m1.length, .int .i64 4000]) = some (.ptr m.length 0, m ++ [some (Ent.obj true [IA z' o' ns, .lst none true .full [], .mref m1.length, .int .i64 4000])]) := fun m => rfl
    rw [T14, len_IA, Option.bind_some, binA_gtr, Option.bind_some, ifA_dec, if_neg (by omega), e47, Option.bind_some, ifA_f]
    repeat ((with_reducible (first | apply bs | apply bsy)); (focus (first | (simp (disch := (first | assumption | omega | (simp only [List.length_append, List.length_set, List.length_cons, List.length_nil]; first | done | omega))) only [List.all_cons, List.all_nil, Bool.and_true, Bool.and_self, beq_self_eq_true, resv1, List.length_map, ld_v3, ld_v1, binA_eql, binA_neq, binA_lss, binA_leq, binA_gtr, binA_geq, loadA_one, un_not, ld_ptr, st_ptr, putE1, objE_obj, Option.bind_some, cut1, cut3, cut4, nil_ptr, fa_ptr, g_lt, g_eq, g_sne, g_seq, new_n, box_n, List.getElem?_cons_zero, List.getElem?_cons_succ, ex0, ex1, Sh.size, cells_int, aok_int, cells_bool, aok_bool, cells_str, aok_str, cells_lst, aok_lst, cells_ptr, aok_ptr, cells_arr, aok_arr, cells_fn, aok_fn, cells_mref, aok_mref, cells_nilp, aok_nilp, cells_agg, shOk_n, shOk_s, lenA_lst, List.length_cons, List.length_nil, if_true, putAt, List.take_succ_cons, List.take_zero, List.drop_succ_cons, List.drop_zero, List.cons_append, List.nil_append, List.append_nil, Nat.zero_add, Nat.reduceAdd, Nat.reduceLeDiff, Nat.le_refl, List.drop_nil, List.take_nil, List.length_append, List.length_set, c49, hb, hx]; first | done | rfl) | rfl)); try dsimp only)
  · refine ⟨m1.length, .lst none true .full [], [], ⟨(by simp (disch := (first | assumption | omega | (simp only [List.length_append, List.length_set, List.length_cons, List.length_nil]; first | done | omega))) only [resv1, g_lt, g_eq, g_sne, g_seq]; first | done | rfl), (by simp (disch := (first | assumption | omega | (simp only [List.length_append, List.length_set, List.length_cons, List.length_nil]; first | done | omega))) only [resv1, g_lt, g_eq, g_sne, g_seq]; first | done | rfl), .none, by simp, by omega, by simp⟩, rfl⟩
  · intro x hx
    simp only [List.mem_cons, List.not_mem_nil, or_false] at hx
    omega
/-! ### alive -/
theorem V13 : AP cfg 13 [] = some (.bool true) := by
  have key : ∃ m', AC cfg 13 [] [] = some (.bool true, m') := by
    obtain ⟨m1, s, F, z', o', e1, h1, _, _⟩ := A14 [] false .full [2] (fun h => by cases h) (by decide)
    obtain ⟨m2, F2, e2, h2, _, _⟩ := A15 h1 7 (by decide) (by omega)
    have hr : leafR [] 7 = ((0, 0), [leafN 7]) := by decide
    rw [hr] at e2 h2
    obtain ⟨m3, e3, f3⟩ := A21 h2 (by omega) (by intro n hn hv; obtain rfl : n = leafN 7 := by simpa using hn
                                                 exact absurd (show (leafN 7).var < 0 by decide) hv) 0
    have hnv : nodeV [leafN 7] 0 = (.agg [.int .i64 (-1), .lst none true .full [], .int .i64 7], 0) := rfl
    rw [hnv] at e3
    have e1 : AC cfg 14 [.lst none false .full [.int .i64 2]] [] = _ := e1
    have sa := st_agg3 (m := m3 ++ [some (Ent.obj true [.int .i64 0, .lst none true .full [], .int .i64 0])]) (k := m3.length) (a := .int .i64 0) (b := .lst none true .full []) (c := .int .i64 0) (by simp (disch := (first | assumption | omega | (simp only [List.length_append, List.length_set, List.length_cons, List.length_nil]; first | done | omega))) only [resv1, g_lt, g_eq, g_sne, g_seq]; first | done | rfl) (sh_i (-1) 7 true .full [])
    refine ⟨List.set (m3 ++ [some (Ent.obj true [.int .i64 0, .lst none true .full [], .int .i64 0])]) m3.length (some (Ent.obj true [.int .i64 (-1), .lst none true .full [], .int .i64 7])), ?_⟩
    rw [T13, show buildSliceA none [(.int .i64 2)] = some (.lst none false .full [.int .i64 2]) from rfl, Option.bind_some]
    repeat ((with_reducible (first | apply bs | apply bsy)); (focus (first | (simp (disch := (first | assumption | omega | (simp only [List.length_append, List.length_set, List.length_cons, List.length_nil]; first | done | omega))) only [List.all_cons, List.all_nil, Bool.and_true, Bool.and_self, beq_self_eq_true, resv1, List.length_map, ld_v3, ld_v1, binA_eql, binA_neq, binA_lss, binA_leq, binA_gtr, binA_geq, loadA_one, un_not, ld_ptr, st_ptr, putE1, objE_obj, Option.bind_some, cut1, cut3, cut4, nil_ptr, fa_ptr, g_lt, g_eq, g_sne, g_seq, new_n, box_n, List.getElem?_cons_zero, List.getElem?_cons_succ, ex0, ex1, Sh.size, cells_int, aok_int, cells_bool, aok_bool, cells_str, aok_str, cells_lst, aok_lst, cells_ptr, aok_ptr, cells_arr, aok_arr, cells_fn, aok_fn, cells_mref, aok_mref, cells_nilp, aok_nilp, cells_agg, shOk_n, shOk_s, lenA_lst, List.length_cons, List.length_nil, if_true, putAt, List.take_succ_cons, List.take_zero, List.drop_succ_cons, List.drop_zero, List.cons_append, List.nil_append, List.append_nil, Nat.zero_add, Nat.reduceAdd, Nat.reduceLeDiff, Nat.le_refl, List.drop_nil, List.take_nil, List.length_append, List.length_set, e1]; first | done | rfl) | rfl)); try dsimp only)
    rw [decide_eq_false (by decide), ifA_f, show binA .pt .eql (.ptr s 0) .nilp = some (.bool false) from rfl, Option.bind_some, ifA_f]
    repeat ((with_reducible (first | apply bs | apply bsy)); (focus (first | (simp (disch := (first | assumption | omega | (simp only [List.length_append, List.length_set, List.length_cons, List.length_nil]; first | done | omega))) only [List.all_cons, List.all_nil, Bool.and_true, Bool.and_self, beq_self_eq_true, resv1, List.length_map, ld_v3, ld_v1, binA_eql, binA_neq, binA_lss, binA_leq, binA_gtr, binA_geq, loadA_one, un_not, ld_ptr, st_ptr, putE1, objE_obj, Option.bind_some, cut1, cut3, cut4, nil_ptr, fa_ptr, g_lt, g_eq, g_sne, g_seq, new_n, box_n, List.getElem?_cons_zero, List.getElem?_cons_succ, ex0, ex1, Sh.size, cells_int, aok_int, cells_bool, aok_bool, cells_str, aok_str, cells_lst, aok_lst, cells_ptr, aok_ptr, cells_arr, aok_arr, cells_fn, aok_fn, cells_mref, aok_mref, cells_nilp, aok_nilp, cells_agg, shOk_n, shOk_s, lenA_lst, List.length_cons, List.length_nil, if_true, putAt, List.take_succ_cons, List.take_zero, List.drop_succ_cons, List.drop_zero, List.cons_append, List.nil_append, List.append_nil, Nat.zero_add, Nat.reduceAdd, Nat.reduceLeDiff, Nat.le_refl, List.drop_nil, List.take_nil, List.length_append, List.length_set, e2, e3, sa]; first | done | rfl) | rfl)); try dsimp only)
    rw [decide_eq_true (by decide), ifA_t]
    repeat ((with_reducible (first | apply bs | apply bsy)); (focus (first | (simp (disch := (first | assumption | omega | (simp only [List.length_append, List.length_set, List.length_cons, List.length_nil]; first | done | omega))) only [List.all_cons, List.all_nil, Bool.and_true, Bool.and_self, beq_self_eq_true, resv1, List.length_map, ld_v3, ld_v1, binA_eql, binA_neq, binA_lss, binA_leq, binA_gtr, binA_geq, loadA_one, un_not, ld_ptr, st_ptr, putE1, objE_obj, Option.bind_some, cut1, cut3, cut4, nil_ptr, fa_ptr, g_lt, g_eq, g_sne, g_seq, new_n, box_n, List.getElem?_cons_zero, List.getElem?_cons_succ, ex0, ex1, Sh.size, cells_int, aok_int, cells_bool, aok_bool, cells_str, aok_str, cells_lst, aok_lst, cells_ptr, aok_ptr, cells_arr, aok_arr, cells_fn, aok_fn, cells_mref, aok_mref, cells_nilp, aok_nilp, cells_agg, shOk_n, shOk_s, lenA_lst, List.length_cons, List.length_nil, if_true, putAt, List.take_succ_cons, List.take_zero, List.drop_succ_cons, List.drop_zero, List.cons_append, List.nil_append, List.append_nil, Nat.zero_add, Nat.reduceAdd, Nat.reduceLeDiff, Nat.le_refl, List.drop_nil, List.take_nil, List.length_append, List.length_set]; first | done | rfl) | rfl)); try dsimp only)
    rw [decide_eq_true (by decide), ifA_t]
    repeat ((with_reducible (first | apply bs | apply bsy)); (focus (first | (simp (disch := (first | assumption | omega | (simp only [List.length_append, List.length_set, List.length_cons, List.length_nil]; first | done | omega))) only [List.all_cons, List.all_nil, Bool.and_true, Bool.and_self, beq_self_eq_true, resv1, List.length_map, ld_v3, ld_v1, binA_eql, binA_neq, binA_lss, binA_leq, binA_gtr, binA_geq, loadA_one, un_not, ld_ptr, st_ptr, putE1, objE_obj, Option.bind_some, cut1, cut3, cut4, nil_ptr, fa_ptr, g_lt, g_eq, g_sne, g_seq, new_n, box_n, List.getElem?_cons_zero, List.getElem?_cons_succ, ex0, ex1, Sh.size, cells_int, aok_int, cells_bool, aok_bool, cells_str, aok_str, cells_lst, aok_lst, cells_ptr, aok_ptr, cells_arr, aok_arr, cells_fn, aok_fn, cells_mref, aok_mref, cells_nilp, aok_nilp, cells_agg, shOk_n, shOk_s, lenA_lst, List.length_cons, List.length_nil, if_true, putAt, List.take_succ_cons, List.take_zero, List.drop_succ_cons, List.drop_zero, List.cons_append, List.nil_append, List.append_nil, Nat.zero_add, Nat.reduceAdd, Nat.reduceLeDiff, Nat.le_refl, List.drop_nil, List.take_nil, List.length_append, List.length_set]; first | done | rfl) | rfl)); try dsimp only)
    rw [decide_eq_true (by decide), ifA_t]
    repeat ((with_reducible (first | apply bs | apply bsy)); (focus (first | (simp (disch := (first | assumption | omega | (simp only [List.length_append, List.length_set, List.length_cons, List.length_nil]; first | done | omega))) only [List.all_cons, List.all_nil, Bool.and_true, Bool.and_self, beq_self_eq_true, resv1, List.length_map, ld_v3, ld_v1, binA_eql, binA_neq, binA_lss, binA_leq, binA_gtr, binA_geq, loadA_one, un_not, ld_ptr, st_ptr, putE1, objE_obj, Option.bind_some, cut1, cut3, cut4, nil_ptr, fa_ptr, g_lt, g_eq, g_sne, g_seq, new_n, box_n, List.getElem?_cons_zero, List.getElem?_cons_succ, ex0, ex1, Sh.size, cells_int, aok_int, cells_bool, aok_bool, cells_str, aok_str, cells_lst, aok_lst, cells_ptr, aok_ptr, cells_arr, aok_arr, cells_fn, aok_fn, cells_mref, aok_mref, cells_nilp, aok_nilp, cells_agg, shOk_n, shOk_s, lenA_lst, List.length_cons, List.length_nil, if_true, putAt, List.take_succ_cons, List.take_zero, List.drop_succ_cons, List.drop_zero, List.cons_append, List.nil_append, List.append_nil, Nat.zero_add, Nat.reduceAdd, Nat.reduceLeDiff, Nat.le_refl, List.drop_nil, List.take_nil, List.length_append, List.length_set]; first | done | rfl) | rfl)); try dsimp only)
    rfl
  obtain ⟨m', e⟩ := key
  unfold AP acallP
  rw [e]
  rfl
theorem pc13 (d : Option Nat) (m : Mem) : pcall (AP cfg) d m 13 [] = some (.bool true, m) := by rw [pcall0, V13]; rfl
end
/-! ### into -/
/-- A row of nodes that is appended to, of elements of type e. -/
inductive NR (e : Nat) (m : Mem) : AV → List ND → List Nat → Prop
  | none : NR e m (.lst none true .full []) [] []
  | some (t : Nat) (l : List ND) (ht : m.get t = some (.tok l.length 3)) : NR e m (.lst (some 3) false (.tok t e) (l.map ND.av)) l [t]
theorem nr_move {e : Nat} {m m' : Mem} {x : AV} {l : List ND} {T : List Nat} (h : NR e m x l T) (f : ∀ k ∈ T, m'.get k = m.get k) : NR e m' x l T := by
  cases h with
  | none => exact .none
  | some t l ht => exact .some t l ((f t (by simp)).trans ht)
theorem nr_lt {e : Nat} {m : Mem} {x : AV} {l : List ND} {T : List Nat} (h : NR e m x l T) : ∀ k ∈ T, k < m.length := by
  cases h with
  | none => simp
  | some t l ht => intro k hk; obtain rfl : k = t := by simpa using hk
                   exact get_lt ht
theorem nr_len {e : Nat} {m : Mem} {x : AV} {l : List ND} {T : List Nat} (h : NR e m x l T) : lenA false x = some (.int .i64 l.length) := by
  cases h with
  | none => rfl
  | some t l ht => rw [lenA_lst, List.length_map]
theorem nr_idx {e : Nat} {m : Mem} {x : AV} {l : List ND} {T : List Nat} (h : NR e m x l T) {i : Nat} (hi : i < l.length) : indexAddrA (some 3) x (.int .i64 i) = some (.vptr [.int .i64 l[i].var, kidsA l[i], .int .i64 l[i].leaf]) := by
  cases h with
  | none => simp at hi
  | some t l ht => exact idx_NL hi
theorem nr_fz {e : Nat} {m : Mem} {x : AV} {l : List ND} {T : List Nat} (h : NR e m x l T) : ∃ x1, Fz x x1 ∧ lenA false x1 = some (.int .i64 l.length) ∧ ∀ (t : Nat) (ht : t < l.length), indexAddrA (some 3) x1 (.int .i64 t) = some (.vptr [.int .i64 l[t].var, kidsA l[t], .int .i64 l[t].leaf]) := by
  cases h with
  | none => exact ⟨.lst none true .full [], fun _ => rfl, rfl, fun t ht => by simp at ht⟩
  | some t l ht => exact ⟨NL false .no l, fun _ => rfl, len_NL _ _ _, fun t ht => idx_NL ht⟩
theorem bsl_av (n : ND) : buildSliceA (some 3) [n.av] = some (NL false .full [n]) := by
  show buildSliceA (some 3) [.agg [.int .i64 n.var, kidsA n, .int .i64 n.leaf]] = some (.lst (some 3) false .full [.agg [.int .i64 n.var, kidsA n, .int .i64 n.leaf]])
  unfold kidsA
  split <;> rfl
theorem idxOf_first {n : ND} : ∀ {l : List ND} {i : Nat} (hi : i < l.length), l[i] = n → (∀ t (ht : t < l.length), t < i → l[t] ≠ n) → l.idxOf n = i
  | [], i, hi, _, _ => by simp at hi
  | x :: l, 0, _, h, _ => by
    have h : x = n := h
    rw [h]; simp
  | x :: l, i + 1, hi, h, hne => by
    have hx : x ≠ n := hne 0 (by simp) (by omega)
    rw [List.idxOf_cons, cond_eq_ite, if_neg (by simpa using hx), idxOf_first (l := l) (i := i) (by simpa using hi) (by simpa using h) (fun t ht hti => by
      have := hne (t + 1) (by simpa using ht) (by omega)
      simpa using this)]
theorem app39 {t : Nat} {m : Mem} {es : List AV} {y : AV} (ht : m.get t = some (.tok es.length 3)) (h : es.length < 1000000) : appA none false 39 (some 3) 40 m (.lst (some 3) false (.tok t 39) es) (.lst (some 3) false .full [y]) = some (.lst (some 3) false (.tok t 39) (es ++ [y]), m.set t (some (.tok (es.length + 1) 3))) := by
  have h2 : (es.length + 1) * 40 ≤ roomA := by unfold roomA; omega
  simp [appA, ht, Sh.size, h2]
theorem A16 {m : Mem} {x : AV} {l : List ND} {T : List Nat} (h : NR 39 m x l T) (hok : ∀ y ∈ l, y.ok) {n : ND} (hn : n.ok) {z : Bool} {o : Own} (hk : stripA (.lst none z o (n.kids.map (AV.int .i64))) = kidsA n) (hl : l.length ≤ 100000) :
    ∃ m' x' T', AC cfg 16 [x, .agg [.int .i64 n.var, .lst none z o (n.kids.map (AV.int .i64)), .int .i64 n.leaf]] m = some (.tup [x', .int .i64 (l.idxOf n : Nat)], m') ∧ NR 39 m' x' (ins l n) T' ∧ Fr m m' T ∧ Gr m T T' := by
  have hbx := box_nd3 n.var n.leaf z o (n.kids.map (AV.int .i64)) m
  generalize hb : some (Ent.obj true [.int .i64 n.var, .lst none z o (n.kids.map (AV.int .i64)), .int .i64 n.leaf]) = bx at hbx
  have hbE : objE bx = some (true, [.int .i64 n.var, .lst none z o (n.kids.map (AV.int .i64)), .int .i64 n.leaf]) := by rw [← hb]; rfl
  have hav : AV.agg [.int .i64 n.var, kidsA n, .int .i64 n.leaf] = n.av := rfl
  have hlen := nr_len h
  have hbs := bsl_nd n.var n.leaf z o (n.kids.map (AV.int .i64))
  rw [hk, hav] at hbs
  have hbs : buildSliceA (some 3) [.agg [.int .i64 n.var, .lst none z o (n.kids.map (AV.int .i64)), .int .i64 n.leaf]] = some (NL false .full [n]) := hbs
  have W : ∀ (j i : Nat) (m1 : Mem), i + j = l.length → (∀ t (ht : t < l.length), t < i → l[t] ≠ n) → Fr (m ++ [bx]) m1 [] →
      ∃ m2, L16_2 x (.ptr m.length 0) x (.int .i64 l.length) (.int .i64 i) m1 (K16_2 (finK cfg.P f16.results.toList)) = (if n ∈ l then K16_2 (finK cfg.P f16.results.toList) .ret (R16_2 x (.int .i64 (l.idxOf n : Nat)) m2) else K16_2 (finK cfg.P f16.results.toList) (.exit 0) (O16_2 x (.ptr m.length 0) m2)) ∧ Fr (m ++ [bx]) m2 [] := by
    intro j
    induction j with
    | zero =>
      intro i m1 hi hne f
      have hnm : n ∉ l := fun hm => by
        obtain ⟨t, ht, e⟩ := List.getElem_of_mem hm
        exact hne t ht (by omega) e
      refine ⟨m1, ?_, f⟩
      rw [L16_2_eq, binA_lss, Option.bind_some, ifA_dec, if_neg (by omega), if_neg hnm]
    | succ j ih =>
      intro i m1 hi hne f
      have hil : i < l.length := by omega
      have hidx := nr_idx h hil
      have bxi := box_av l[i] m1 (get_len m1)
      have f2 : Fr (m ++ [bx]) (m1 ++ [some (Ent.obj true [.int .i64 l[i].var, kidsA l[i], .int .i64 l[i].leaf])]) [] := f.snoc _
      have gb : Mem.get (m1 ++ [some (Ent.obj true [.int .i64 l[i].var, kidsA l[i], .int .i64 l[i].leaf])]) m.length = bx := by
        rw [f2.get _ (by simp) (by simp)]; exact (by simp (disch := (first | assumption | omega | (simp only [List.length_append, List.length_set, List.length_cons, List.length_nil]; first | done | omega))) only [resv1, g_lt, g_eq, g_sne, g_seq]; first | done | rfl)
      have hio := hok _ (List.getElem_mem hil)
      have hbi : buildSliceA (some 3) [.agg [.int .i64 l[i].var, kidsA l[i], .int .i64 l[i].leaf]] = some (NL false .full [l[i]]) := bsl_av l[i]
      have p22 := fun m => pc22 false false .full .full [n] [l[i]] (by simp [hn]) (by simp [hio]) (by simp) none m
      have e0 : L16_2 x (.ptr m.length 0) x (.int .i64 l.length) (.int .i64 i) m1 (K16_2 (finK cfg.P f16.results.toList)) = ifA (.bool (decide ([n] = [l[i]]))) (K16_2 (finK cfg.P f16.results.toList) .ret (R16_2 x (.int .i64 i) (m1 ++ [some (Ent.obj true [.int .i64 l[i].var, kidsA l[i], .int .i64 l[i].leaf])]))) (L16_2 x (.ptr m.length 0) x (.int .i64 l.length) (.int .i64 (i + 1 : Nat)) (m1 ++ [some (Ent.obj true [.int .i64 l[i].var, kidsA l[i], .int .i64 l[i].leaf])]) (K16_2 (finK cfg.P f16.results.toList))) := by
        rw [L16_2_eq, binA_lss, Option.bind_some, ifA_dec, if_pos (by omega)]
        repeat ((with_reducible (first | apply bs | apply bsy)); (focus (first | (simp (disch := (first | assumption | omega | (simp only [List.length_append, List.length_set, List.length_cons, List.length_nil]; first | done | omega))) only [List.all_cons, List.all_nil, Bool.and_true, Bool.and_self, beq_self_eq_true, resv1, List.length_map, ld_v3, ld_v1, binA_eql, binA_neq, binA_lss, binA_leq, binA_gtr, binA_geq, loadA_one, un_not, ld_ptr, st_ptr, putE1, objE_obj, Option.bind_some, cut1, cut3, cut4, nil_ptr, fa_ptr, g_lt, g_eq, g_sne, g_seq, new_n, box_n, List.getElem?_cons_zero, List.getElem?_cons_succ, ex0, ex1, Sh.size, cells_int, aok_int, cells_bool, aok_bool, cells_str, aok_str, cells_lst, aok_lst, cells_ptr, aok_ptr, cells_arr, aok_arr, cells_fn, aok_fn, cells_mref, aok_mref, cells_nilp, aok_nilp, cells_agg, shOk_n, shOk_s, lenA_lst, List.length_cons, List.length_nil, if_true, putAt, List.take_succ_cons, List.take_zero, List.drop_succ_cons, List.drop_zero, List.cons_append, List.nil_append, List.append_nil, Nat.zero_add, Nat.reduceAdd, Nat.reduceLeDiff, Nat.le_refl, List.drop_nil, List.take_nil, List.length_append, List.length_set, hidx, bxi, gb, hbE, hbs, hbi, p22]; first | done | rfl) | rfl)); try dsimp only)
        rw [i_add1 (by omega), Option.bind_some]
      rw [e0, ifA_dec]
      by_cases he : [n] = [l[i]]
      · have he2 : l[i] = n := (List.cons.inj he).1.symm
        have hm : n ∈ l := he2 ▸ List.getElem_mem hil
        have hix : l.idxOf n = i := idxOf_first hil he2 hne
        refine ⟨_, ?_, f2⟩
        rw [if_pos he, if_pos hm, hix]
      · rw [if_neg he]
        exact ih (i + 1) _ (by omega) (fun t ht hti => by
          rcases Nat.lt_or_ge t i with hh | hh
          · exact hne t ht hh
          · obtain rfl : t = i := by omega
            exact fun e => he (by rw [e])) f2
  obtain ⟨m2, e2, f2⟩ := W l.length 0 (m ++ [bx]) (by omega) (fun _ _ h => by omega) (Fr.refl _ _)
  have fm : Fr m m2 [] := Fr.trans (Fr.app m bx []) f2 fun _ h => by cases h
  have eT : AC cfg 16 [x, .agg [.int .i64 n.var, .lst none z o (n.kids.map (AV.int .i64)), .int .i64 n.leaf]] m = L16_2 x (.ptr m.length 0) x (.int .i64 l.length) (.int .i64 (0 : Nat)) (m ++ [bx]) (K16_2 (finK cfg.P f16.results.toList)) := by
    rw [T16, hbx, Option.bind_some, hlen, Option.bind_some]; rfl
  rw [eT, e2]
  by_cases hm : n ∈ l
  · rw [if_pos hm, K16_2_ret, ins, if_pos hm]
    exact ⟨m2, x, T, rfl, nr_move h fun k hk => fm.get _ (nr_lt h k hk) (by simp), fm.mono (by simp), Gr.refl _ _⟩
  · have gb : m2.get m.length = bx := by rw [f2.get _ (by simp) (by simp)]; exact (by simp (disch := (first | assumption | omega | (simp only [List.length_append, List.length_set, List.length_cons, List.length_nil]; first | done | omega))) only [resv1, g_lt, g_eq, g_sne, g_seq]; first | done | rfl)
    rw [if_neg hm, K16_2_x0, ins, if_neg hm, idxOf_not hm]
    cases h with
    | none =>
      refine ⟨m2 ++ [some (Ent.tok 1 3)], .lst (some 3) false (.tok m2.length 39) [n.av], [m2.length], ?_, .some _ [n] (by simp (disch := (first | assumption | omega | (simp only [List.length_append, List.length_set, List.length_cons, List.length_nil]; first | done | omega))) only [resv1, g_lt, g_eq, g_sne, g_seq]; first | done | rfl), fm.snoc _, fun k hk => ?_⟩
      · have ha : appA none false 39 (some 3) 40 m2 (.lst none true .full []) (NL false .full [n]) = some (.lst (some 3) false (.tok m2.length 39) [n.av], m2 ++ [some (Ent.tok 1 3)]) := rfl
        have hbs : buildSliceA (some 3) [.agg [.int .i64 n.var, .lst none z o (n.kids.map (AV.int .i64)), .int .i64 n.leaf]] = some (NL false .full [n]) := hbs
        repeat ((with_reducible (first | apply bs | apply bsy)); (focus (first | (simp (disch := (first | assumption | omega | (simp only [List.length_append, List.length_set, List.length_cons, List.length_nil]; first | done | omega))) only [List.all_cons, List.all_nil, Bool.and_true, Bool.and_self, beq_self_eq_true, resv1, List.length_map, ld_v3, ld_v1, binA_eql, binA_neq, binA_lss, binA_leq, binA_gtr, binA_geq, loadA_one, un_not, ld_ptr, st_ptr, putE1, objE_obj, Option.bind_some, cut1, cut3, cut4, nil_ptr, fa_ptr, g_lt, g_eq, g_sne, g_seq, new_n, box_n, List.getElem?_cons_zero, List.getElem?_cons_succ, ex0, ex1, Sh.size, cells_int, aok_int, cells_bool, aok_bool, cells_str, aok_str, cells_lst, aok_lst, cells_ptr, aok_ptr, cells_arr, aok_arr, cells_fn, aok_fn, cells_mref, aok_mref, cells_nilp, aok_nilp, cells_agg, shOk_n, shOk_s, lenA_lst, List.length_cons, List.length_nil, if_true, putAt, List.take_succ_cons, List.take_zero, List.drop_succ_cons, List.drop_zero, List.cons_append, List.nil_append, List.append_nil, Nat.zero_add, Nat.reduceAdd, Nat.reduceLeDiff, Nat.le_refl, List.drop_nil, List.take_nil, List.length_append, List.length_set, gb, hbE, hbs, ha]; first | done | rfl) | rfl)); try dsimp only)
        rfl
      · obtain rfl : k = m2.length := by simpa using hk
        exact .inr fm.len
    | some t l ht =>
      have htl := get_lt ht
      have ht2 : m2.get t = some (.tok (l.map ND.av).length 3) := by rw [fm.get t htl (by simp), List.length_map]; exact ht
      have ha := app39 (y := n.av) ht2 (by simp; omega)
      rw [List.length_map] at ha
      have ha : appA none false 39 (some 3) 40 m2 (.lst (some 3) false (.tok t 39) (l.map ND.av)) (NL false .full [n]) = some (.lst (some 3) false (.tok t 39) (l.map ND.av ++ [n.av]), m2.set t (some (Ent.tok (l.length + 1) 3))) := ha
      refine ⟨m2.set t (some (Ent.tok (l.length + 1) 3)), .lst (some 3) false (.tok t 39) (l.map ND.av ++ [n.av]), [t], ?_, ?_, (fm.mono (by simp)).set _ (.inl (by simp)), Gr.refl _ _⟩
      · repeat ((with_reducible (first | apply bs | apply bsy)); (focus (first | (simp (disch := (first | assumption | omega | (simp only [List.length_append, List.length_set, List.length_cons, List.length_nil]; first | done | omega))) only [List.all_cons, List.all_nil, Bool.and_true, Bool.and_self, beq_self_eq_true, resv1, List.length_map, ld_v3, ld_v1, binA_eql, binA_neq, binA_lss, binA_leq, binA_gtr, binA_geq, loadA_one, un_not, ld_ptr, st_ptr, putE1, objE_obj, Option.bind_some, cut1, cut3, cut4, nil_ptr, fa_ptr, g_lt, g_eq, g_sne, g_seq, new_n, box_n, List.getElem?_cons_zero, List.getElem?_cons_succ, ex0, ex1, Sh.size, cells_int, aok_int, cells_bool, aok_bool, cells_str, aok_str, cells_lst, aok_lst, cells_ptr, aok_ptr, cells_arr, aok_arr, cells_fn, aok_fn, cells_mref, aok_mref, cells_nilp, aok_nilp, cells_agg, shOk_n, shOk_s, lenA_lst, List.length_cons, List.length_nil, if_true, putAt, List.take_succ_cons, List.take_zero, List.drop_succ_cons, List.drop_zero, List.cons_append, List.nil_append, List.append_nil, Nat.zero_add, Nat.reduceAdd, Nat.reduceLeDiff, Nat.le_refl, List.drop_nil, List.take_nil, List.length_append, List.length_set, gb, hbE, hbs, ha]; first | done | rfl) | rfl)); try dsimp only)
      · have e3 : l.map ND.av ++ [n.av] = (l ++ [n]).map ND.av := by simp
        rw [e3]
        refine .some t (l ++ [n]) ?_
        rw [g_seq rfl (Nat.lt_of_lt_of_le htl fm.len), List.length_append]; rfl
end Go.Ab

/- What the interpreter does, function by function. -/
set_option maxRecDepth 100000
set_option linter.unusedVariables false
namespace Go.Ab
open Go.Proofs.Tryd
/-! ### sortilege/sortilegelaw23.DiagramSteps -/
def O3_10 (x5 x7 : AV) (m : Mem) : St := ⟨[.any, .any, .any, .any, .any, x5, .any, x7, .any, .any, .any, .any, .any, .any, .any, .any, .any, .any, .any, .any, .any, .any, .any, .any, .any, .any, .any, .any, .any, .any, .any, .any, .any, .any, .any, .any, .any, .any, .any, .any, .any, .any, .any, .any, .any, .any, .any, .any, .any, .any, .any, .any, .any, .any, .any, .any, .any, .any, .any, .any, .any, .any, .any, .any, .any, .any, .any, .any, .any, .any, .any, .any, .any, .any, .any, .any, .any, .any, .any, .any, .any, .any, .any, .any, .any, .any, .any, .any, .any, .any, .any, .any, .any, .any, .any, .any, .any, .any, .any, .any, .any, .any, .any, .any, .any, .any, .any, .any, .any, .any, .any, .any, .any, .any, .any, .any, .any, .any, .any, .any, .any, .any, .any, .any, .any, .any, .any, .any, .any, .any, .any, .any, .any, .any, .any, .any, .any, .any, .any, .any, .any, .any, .any, .any, .any, .any, .any, .any, .any, .any, .any, .any, .any, .any, .any, .any, .any, .any, .any, .any, .any, .any, .any, .any, .any, .any, .any, .any, .any, .any, .any, .any], m⟩
def R3_10 (x4 : AV) (m : Mem) : St := ⟨[.any, .any, .any, .any, x4, .any, .any, .any, .any, .any, .any, .any, .any, .any, .any, .any, .any, .any, .any, .any, .any, .any, .any, .any, .any, .any, .any, .any, .any, .any, .any, .any, .any, .any, .any, .any, .any, .any, .any, .any, .any, .any, .any, .any, .any, .any, .any, .any, .any, .any, .any, .any, .any, .any, .any, .any, .any, .any, .any, .any, .any, .any, .any, .any, .any, .any, .any, .any, .any, .any, .any, .any, .any, .any, .any, .any, .any, .any, .any, .any, .any, .any, .any, .any, .any, .any, .any, .any, .any, .any, .any, .any, .any, .any, .any, .any, .any, .any, .any, .any, .any, .any, .any, .any, .any, .any, .any, .any, .any, .any, .any, .any, .any, .any, .any, .any, .any, .any, .any, .any, .any, .any, .any, .any, .any, .any, .any, .any, .any, .any, .any, .any, .any, .any, .any, .any, .any, .any, .any, .any, .any, .any, .any, .any, .any, .any, .any, .any, .any, .any, .any, .any, .any, .any, .any, .any, .any, .any, .any, .any, .any, .any, .any, .any, .any, .any, .any, .any, .any, .any, .any, .any], m⟩
noncomputable def L3_10 (x0 x5 x7 x41 x42 x43 : AV) (m : Mem) (K : Ex → St → Option (AV × Mem)) : Option (AV × Mem) := loopW (execW cfg 3 (AP cfg) (AC cfg) (c1 (c1 (c2 (c1 (c2 (c2 (c2 (c2 (c2 (c2 (c2 (bodyOf f3))))))))))))) (cfg.mask 3 (some 10)) ⟨[x0, .any, .any, .any, .any, x5, .any, x7, .any, .any, .any, .any, .any, .any, .any, .any, .any, .any, .any, .any, .any, .any, .any, .any, .any, .any, .any, .any, .any, .any, .any, .any, .any, .any, .any, .any, .any, .any, .any, .any, .any, x41, x42, x43, .any, .any, .any, .any, .any, .any, .any, .any, .any, .any, .any, .any, .any, .any, .any, .any, .any, .any, .any, .any, .any, .any, .any, .any, .any, .any, .any, .any, .any, .any, .any, .any, .any, .any, .any, .any, .any, .any, .any, .any, .any, .any, .any, .any, .any, .any, .any, .any, .any, .any, .any, .any, .any, .any, .any, .any, .any, .any, .any, .any, .any, .any, .any, .any, .any, .any, .any, .any, .any, .any, .any, .any, .any, .any, .any, .any, .any, .any, .any, .any, .any, .any, .any, .any, .any, .any, .any, .any, .any, .any, .any, .any, .any, .any, .any, .any, .any, .any, .any, .any, .any, .any, .any, .any, .any, .any, .any, .any, .any, .any, .any, .any, .any, .any, .any, .any, .any, .any, .any, .any, .any, .any, .any, .any, .any, .any, .any, .any], m⟩ K
def O3_30 (x5 x7 : AV) (m : Mem) : St := ⟨[.any, .any, .any, .any, .any, x5, .any, x7, .any, .any, .any, .any, .any, .any, .any, .any, .any, .any, .any, .any, .any, .any, .any, .any, .any, .any, .any, .any, .any, .any, .any, .any, .any, .any, .any, .any, .any, .any, .any, .any, .any, .any, .any, .any, .any, .any, .any, .any, .any, .any, .any, .any, .any, .any, .any, .any, .any, .any, .any, .any, .any, .any, .any, .any, .any, .any, .any, .any, .any, .any, .any, .any, .any, .any, .any, .any, .any, .any, .any, .any, .any, .any, .any, .any, .any, .any, .any, .any, .any, .any, .any, .any, .any, .any, .any, .any, .any, .any, .any, .any, .any, .any, .any, .any, .any, .any, .any, .any, .any, .any, .any, .any, .any, .any, .any, .any, .any, .any, .any, .any, .any, .any, .any, .any, .any, .any, .any, .any, .any, .any, .any, .any, .any, .any, .any, .any, .any, .any, .any, .any, .any, .any, .any, .any, .any, .any, .any, .any, .any, .any, .any, .any, .any, .any, .any, .any, .any, .any, .any, .any, .any, .any, .any, .any, .any, .any, .any, .any, .any, .any, .any, .any], m⟩
def R3_30 (x4 : AV) (m : Mem) : St := ⟨[.any, .any, .any, .any, x4, .any, .any, .any, .any, .any, .any, .any, .any, .any, .any, .any, .any, .any, .any, .any, .any, .any, .any, .any, .any, .any, .any, .any, .any, .any, .any, .any, .any, .any, .any, .any, .any, .any, .any, .any, .any, .any, .any, .any, .any, .any, .any, .any, .any, .any, .any, .any, .any, .any, .any, .any, .any, .any, .any, .any, .any, .any, .any, .any, .any, .any, .any, .any, .any, .any, .any, .any, .any, .any, .any, .any, .any, .any, .any, .any, .any, .any, .any, .any, .any, .any, .any, .any, .any, .any, .any, .any, .any, .any, .any, .any, .any, .any, .any, .any, .any, .any, .any, .any, .any, .any, .any, .any, .any, .any, .any, .any, .any, .any, .any, .any, .any, .any, .any, .any, .any, .any, .any, .any, .any, .any, .any, .any, .any, .any, .any, .any, .any, .any, .any, .any, .any, .any, .any, .any, .any, .any, .any, .any, .any, .any, .any, .any, .any, .any, .any, .any, .any, .any, .any, .any, .any, .any, .any, .any, .any, .any, .any, .any, .any, .any, .any, .any, .any, .any, .any, .any], m⟩
noncomputable def L3_30 (x5 x7 x127 x128 x129 : AV) (m : Mem) (K : Ex → St → Option (AV × Mem)) : Option (AV × Mem) := loopW (execW cfg 3 (AP cfg) (AC cfg) (c1 (c1 (c2 (c1 (c2 (c2 (c2 (c2 (c2 (c2 (c2 (c2 (bodyOf f3)))))))))))))) (cfg.mask 3 (some 30)) ⟨[.any, .any, .any, .any, .any, x5, .any, x7, .any, .any, .any, .any, .any, .any, .any, .any, .any, .any, .any, .any, .any, .any, .any, .any, .any, .any, .any, .any, .any, .any, .any, .any, .any, .any, .any, .any, .any, .any, .any, .any, .any, .any, .any, .any, .any, .any, .any, .any, .any, .any, .any, .any, .any, .any, .any, .any, .any, .any, .any, .any, .any, .any, .any, .any, .any, .any, .any, .any, .any, .any, .any, .any, .any, .any, .any, .any, .any, .any, .any, .any, .any, .any, .any, .any, .any, .any, .any, .any, .any, .any, .any, .any, .any, .any, .any, .any, .any, .any, .any, .any, .any, .any, .any, .any, .any, .any, .any, .any, .any, .any, .any, .any, .any, .any, .any, .any, .any, .any, .any, .any, .any, .any, .any, .any, .any, .any, .any, x127, x128, x129, .any, .any, .any, .any, .any, .any, .any, .any, .any, .any, .any, .any, .any, .any, .any, .any, .any, .any, .any, .any, .any, .any, .any, .any, .any, .any, .any, .any, .any, .any, .any, .any, .any, .any, .any, .any, .any, .any, .any, .any, .any, .any], m⟩ K
noncomputable abbrev K3_10_0 (K : Ex → St → Option (AV × Mem)) : Ex → St → Option (AV × Mem) := seqK (fun st => execW cfg 3 (AP cfg) (AC cfg) (c2 (c2 (c2 (c2 (c2 (c2 (c2 (c2 (bodyOf f3))))))))) st K) K
noncomputable abbrev K3_10_1 (K : Ex → St → Option (AV × Mem)) : Ex → St → Option (AV × Mem) := blockK 0 (K3_10_0 K)
noncomputable abbrev K3_10 (K : Ex → St → Option (AV × Mem)) : Ex → St → Option (AV × Mem) := (K3_10_1 K)
noncomputable abbrev K3_30_0 (K : Ex → St → Option (AV × Mem)) : Ex → St → Option (AV × Mem) := seqK (fun st => execW cfg 3 (AP cfg) (AC cfg) (c2 (c2 (c2 (c2 (c2 (c2 (c2 (c2 (c2 (bodyOf f3)))))))))) st K) K
noncomputable abbrev K3_30_1 (K : Ex → St → Option (AV × Mem)) : Ex → St → Option (AV × Mem) := blockK 2 (K3_30_0 K)
noncomputable abbrev K3_30 (K : Ex → St → Option (AV × Mem)) : Ex → St → Option (AV × Mem) := (K3_30_1 K)
theorem T3 (a0 a1 : AV) (m : Mem) : AC cfg 3 [a0, a1] m =
  (pcall (AP cfg) none m 11 [a0]).bind fun r1 =>
  (lenA false a1).bind fun v2 =>
  (maxA false v2 (.int .i64 60)).bind fun v3 =>
  (sliceT (some 3) a1 none (some v3) none).bind fun v4 =>
  (pcall (AP cfg) none r1.2 12 [r1.1]).bind fun r5 =>
  (binA .other .neq r5.1 (.int .i64 0)).bind fun v6 =>
  ifA v6 (
  (pcall (AP cfg) none r5.2 13 []).bind fun r7 =>
  some (r7.1, r7.2)) (
  (AC cfg 14 [r1.1] r5.2).bind fun r8 =>
  (extractA r8.1 0).bind fun v9 =>
  (extractA r8.1 1).bind fun v10 =>
  (binA .other .neq v10 (.int .i64 0)).bind fun v11 =>
  ifA v11 (
  some ((.bool false), r8.2)) (
  (lenA false v4).bind fun v12 =>
  L3_10 r1.1 v9 (.lst none true .full []) v4 v12 (.int .i64 0) r8.2 (K3_10 (finK cfg.P f3.results.toList)))) :=
(AC_eq cfg 3 [a0, a1] m (fn := f3) (c := bodyOf f3) at3 rfl).trans (by kernel_rfl)
theorem L3_10_eq (x0 x5 x7 x41 x42 x43 : AV) (m : Mem) (K : Ex → St → Option (AV × Mem)) : L3_10 x0 x5 x7 x41 x42 x43 m K =
  (binA .other .lss x43 x42).bind fun v1 =>
  ifA v1 (
  (indexAddrA (some 3) x41 x43).bind fun v2 =>
  (loadA (some 3) m v2).bind fun v3 =>
  (storeA (some 3) (newAt none m (.obj true [(.int .i64 0), (.int .i64 0), (.lst none true .full [])])).2 (.ptr (newAt none m .resv).1 0) v3).bind fun m4 =>
  (fieldAddrA 0 (.ptr (newAt none m .resv).1 0)).bind fun v5 =>
  (loadA none m4 v5).bind fun v6 =>
  (binA .other .rem v6 (.int .i64 2)).bind fun v7 =>
  (binA .other .eql v7 (.int .i64 0)).bind fun v8 =>
  ifA v8 (
  (fieldAddrA 1 (.ptr (newAt none m .resv).1 0)).bind fun v9 =>
  (loadA none m4 v9).bind fun v10 =>
  (AC cfg 15 [x5, v10] m4).bind fun r11 =>
  (extractA r11.1 0).bind fun v12 =>
  (extractA r11.1 1).bind fun v13 =>
  (fieldAddrA 1 (.ptr (newAt none m .resv).1 0)).bind fun v14 =>
  (loadA none r11.2 v14).bind fun v15 =>
  (binA .other .geq v15 (.int .i64 0)).bind fun v16 =>
  ifA v16 (
  (fieldAddrA 1 (.ptr (newAt none m .resv).1 0)).bind fun v17 =>
  (loadA none r11.2 v17).bind fun v18 =>
  (binA .other .leq v18 (.int .i64 2147483647)).bind fun v19 =>
  ifA v19 (
  (fieldAddrA 1 (.ptr (newAt none m .resv).1 0)).bind fun v20 =>
  (loadA none r11.2 v20).bind fun v21 =>
  (buildA (.agg [(.int .i64 0), (.lst none true .full []), (.int .i64 0)]) [(0, none, (.int .i64 (-1))), (2, none, v21)]).bind fun v22 =>
  (AC cfg 16 [x7, v22] r11.2).bind fun r23 =>
  (extractA r23.1 0).bind fun v24 =>
  (extractA r23.1 1).bind fun v25 =>
  (binA .other .neq v13 (.int .i64 0)).bind fun v26 =>
  ifA v26 (
  K .ret (R3_10 (.bool false) r23.2)) (
  (binA .other .neq v12 v25).bind fun v27 =>
  ifA v27 (
  K .ret (R3_10 (.bool false) r23.2)) (
  (AC cfg 20 [x5] r23.2).bind fun r28 =>
  (lenA false v24).bind fun v29 =>
  (binA .other .neq r28.1 v29).bind fun v30 =>
  ifA v30 (
  K .ret (R3_10 (.bool false) r28.2)) (
  (binA .other .add x43 (.int .i64 1)).bind fun v31 =>
  L3_10 x0 x5 v24 x41 x42 v31 r28.2 K)))) (
  (binA .other .neq v13 (.int .i64 1)).bind fun v32 =>
  ifA v32 (
  K .ret (R3_10 (.bool false) r11.2)) (
  (binA .other .neq v12 (.int .i64 0)).bind fun v33 =>
  ifA v33 (
  K .ret (R3_10 (.bool false) r11.2)) (
  (AC cfg 20 [x5] r11.2).bind fun r34 =>
  (lenA false x7).bind fun v35 =>
  (binA .other .neq r34.1 v35).bind fun v36 =>
  ifA v36 (
  K .ret (R3_10 (.bool false) r34.2)) (
  (binA .other .add x43 (.int .i64 1)).bind fun v37 =>
  L3_10 x0 x5 x7 x41 x42 v37 r34.2 K))))) (
  (binA .other .neq v13 (.int .i64 1)).bind fun v38 =>
  ifA v38 (
  K .ret (R3_10 (.bool false) r11.2)) (
  (binA .other .neq v12 (.int .i64 0)).bind fun v39 =>
  ifA v39 (
  K .ret (R3_10 (.bool false) r11.2)) (
  (AC cfg 20 [x5] r11.2).bind fun r40 =>
  (lenA false x7).bind fun v41 =>
  (binA .other .neq r40.1 v41).bind fun v42 =>
  ifA v42 (
  K .ret (R3_10 (.bool false) r40.2)) (
  (binA .other .add x43 (.int .i64 1)).bind fun v43 =>
  L3_10 x0 x5 x7 x41 x42 v43 r40.2 K))))) (
  (fieldAddrA 2 (.ptr (newAt none m .resv).1 0)).bind fun v44 =>
  (loadA none m4 v44).bind fun v45 =>
  (fieldAddrA 2 (.ptr (newAt none m .resv).1 0)).bind fun v46 =>
  (loadA none m4 v46).bind fun v47 =>
  (lenA false v47).bind fun v48 =>
  (maxA false v48 (.int .i64 70)).bind fun v49 =>
  (sliceT none v45 none (some v49) none).bind fun v50 =>
  (fieldAddrA 1 (.ptr (newAt none m .resv).1 0)).bind fun v51 =>
  (loadA none m4 v51).bind fun v52 =>
  (AC cfg 17 [x5, v52, v50] m4).bind fun r53 =>
  (extractA r53.1 0).bind fun v54 =>
  (extractA r53.1 1).bind fun v55 =>
  (fieldAddrA 1 (.ptr (newAt none m .resv).1 0)).bind fun v56 =>
  (loadA none r53.2 v56).bind fun v57 =>
  (pcall (AP cfg) none r53.2 18 [x0, x7, v57, v50]).bind fun r58 =>
  ifA r58.1 (
  (pcall (AP cfg) none r58.2 19 [v50]).bind fun r59 =>
  ifA r59.1 (
  (indexAddrA none v50 (.int .i64 0)).bind fun v60 =>
  (loadA none r59.2 v60).bind fun v61 =>
  (binA .other .neq v55 (.int .i64 0)).bind fun v62 =>
  ifA v62 (
  K .ret (R3_10 (.bool false) r59.2)) (
  (binA .other .neq v54 v61).bind fun v63 =>
  ifA v63 (
  K .ret (R3_10 (.bool false) r59.2)) (
  (AC cfg 20 [x5] r59.2).bind fun r64 =>
  (lenA false x7).bind fun v65 =>
  (binA .other .neq r64.1 v65).bind fun v66 =>
  ifA v66 (
  K .ret (R3_10 (.bool false) r64.2)) (
  (binA .other .add x43 (.int .i64 1)).bind fun v67 =>
  L3_10 x0 x5 x7 x41 x42 v67 r64.2 K)))) (
  (fieldAddrA 1 (.ptr (newAt none m .resv).1 0)).bind fun v68 =>
  (loadA none r59.2 v68).bind fun v69 =>
  (buildSliceA none []).bind fun v70 =>
  (appA none false 3 none 8 r59.2 v70 v50).bind fun r71 =>
  ifP ((loadA none r71.2 v68).bind (fun v => some (v, r71.2)) = some (v69, r71.2)) (
  (buildA (.agg [(.int .i64 0), (.lst none true .full []), (.int .i64 0)]) [(0, none, v69), (1, none, r71.1)]).bind fun v72 =>
  (AC cfg 16 [x7, v72] r71.2).bind fun r73 =>
  (extractA r73.1 0).bind fun v74 =>
  (extractA r73.1 1).bind fun v75 =>
  (binA .other .neq v55 (.int .i64 0)).bind fun v76 =>
  ifA v76 (
  K .ret (R3_10 (.bool false) r73.2)) (
  (binA .other .neq v54 v75).bind fun v77 =>
  ifA v77 (
  K .ret (R3_10 (.bool false) r73.2)) (
  (AC cfg 20 [x5] r73.2).bind fun r78 =>
  (lenA false v74).bind fun v79 =>
  (binA .other .neq r78.1 v79).bind fun v80 =>
  ifA v80 (
  K .ret (R3_10 (.bool false) r78.2)) (
  (binA .other .add x43 (.int .i64 1)).bind fun v81 =>
  L3_10 x0 x5 v74 x41 x42 v81 r78.2 K)))))) (
  (binA .other .neq v55 (.int .i64 1)).bind fun v82 =>
  ifA v82 (
  K .ret (R3_10 (.bool false) r58.2)) (
  (binA .other .neq v54 (.int .i64 0)).bind fun v83 =>
  ifA v83 (
  K .ret (R3_10 (.bool false) r58.2)) (
  (AC cfg 20 [x5] r58.2).bind fun r84 =>
  (lenA false x7).bind fun v85 =>
  (binA .other .neq r84.1 v85).bind fun v86 =>
  ifA v86 (
  K .ret (R3_10 (.bool false) r84.2)) (
  (binA .other .add x43 (.int .i64 1)).bind fun v87 =>
  L3_10 x0 x5 x7 x41 x42 v87 r84.2 K)))))) (
  K (.exit 0) (O3_10 x5 x7 m)) :=
(loopW_eq (execW_lin _) _ _ _).trans (by kernel_rfl)
theorem L3_30_eq (x5 x7 x127 x128 x129 : AV) (m : Mem) (K : Ex → St → Option (AV × Mem)) : L3_30 x5 x7 x127 x128 x129 m K =
  (binA .other .lss x129 x128).bind fun v1 =>
  ifA v1 (
  (indexAddrA (some 3) x127 x129).bind fun v2 =>
  (loadA (some 3) m v2).bind fun v3 =>
  (storeA (some 3) (newAt none m (.obj true [(.int .i64 0), (.lst none true .full []), (.int .i64 0)])).2 (.ptr (newAt none m .resv).1 0) v3).bind fun m4 =>
  (AC cfg 21 [x5, x129] m4).bind fun r5 =>
  (extractA r5.1 0).bind fun v6 =>
  (extractA r5.1 1).bind fun v7 =>
  (storeA (some 3) (newAt none r5.2 (.obj true [(.int .i64 0), (.lst none true .full []), (.int .i64 0)])).2 (.ptr (newAt none r5.2 .resv).1 0) v6).bind fun m8 =>
  (binA .other .neq v7 (.int .i64 0)).bind fun v9 =>
  ifA v9 (
  K .ret (R3_30 (.bool false) m8)) (
  (loadA (some 3) m8 (.ptr (newAt none r5.2 .resv).1 0)).bind fun v10 =>
  (buildSliceA (some 3) [v10]).bind fun v11 =>
  (loadA (some 3) m8 (.ptr (newAt none m .resv).1 0)).bind fun v12 =>
  (buildSliceA (some 3) [v12]).bind fun v13 =>
  (pcall (AP cfg) none m8 22 [v11, v13]).bind fun r14 =>
  (unA .not r14.1).bind fun v15 =>
  ifA v15 (
  K .ret (R3_30 (.bool false) r14.2)) (
  (binA .other .add x129 (.int .i64 1)).bind fun v16 =>
  L3_30 x5 x7 x127 x128 v16 r14.2 K))) (
  K (.exit 2) (O3_30 x5 x7 m)) :=
(loopW_eq (execW_lin _) _ _ _).trans (by kernel_rfl)
theorem K3_10_x0 (x5 x7 : AV) (m : Mem) : K3_10 (finK cfg.P f3.results.toList) (.exit 0) (O3_10 x5 x7 m) =
  (lenA false x7).bind fun v1 =>
  L3_30 x5 x7 x7 v1 (.int .i64 0) m (K3_30 (finK cfg.P f3.results.toList)) := by kernel_rfl
theorem K3_30_x2 (x5 x7 : AV) (m : Mem) : K3_30 (finK cfg.P f3.results.toList) (.exit 2) (O3_30 x5 x7 m) =
  (lenA false x7).bind fun v1 =>
  (AC cfg 21 [x5, v1] m).bind fun r2 =>
  (extractA r2.1 0).bind fun v3 =>
  (extractA r2.1 1).bind fun v4 =>
  (storeA (some 3) (newAt none r2.2 (.obj true [(.int .i64 0), (.lst none true .full []), (.int .i64 0)])).2 (.ptr (newAt none r2.2 .resv).1 0) v3).bind fun m5 =>
  (AC cfg 21 [x5, (.int .i64 (-1))] m5).bind fun r6 =>
  (extractA r6.1 0).bind fun v7 =>
  (extractA r6.1 1).bind fun v8 =>
  (storeA (some 3) (newAt none r6.2 (.obj true [(.int .i64 0), (.lst none true .full []), (.int .i64 0)])).2 (.ptr (newAt none r6.2 .resv).1 0) v7).bind fun m9 =>
  (binA .other .eql v4 (.int .i64 1)).bind fun v10 =>
  ifA v10 (
  (binA .other .eql v8 (.int .i64 1)).bind fun v11 =>
  ifA v11 (
  (pcall (AP cfg) none m9 13 []).bind fun r12 =>
  some (r12.1, r12.2)) (
  some ((.bool false), m9))) (
  some ((.bool false), m9)) := by kernel_rfl
end Go.Ab

/- DiagramSteps in values. -/
set_option linter.unusedVariables false
set_option linter.unusedSimpArgs false
set_option linter.unusedSectionVars false
set_option maxRecDepth 100000
namespace Go.Ab
open Go.Proofs Go.Proofs.Tryd

structure SP where
  kind : Int
  a : Int
  kz : Bool
  kids : List Int
def SP.av (x : SP) : AV := .agg [.int .i64 x.kind, .int .i64 x.a, IA x.kz .no x.kids]
abbrev SL (z : Bool) (o : Own) (l : List SP) : AV := .lst (some 3) z o (l.map SP.av)
theorem idx_SL {z : Bool} {o : Own} {l : List SP} {i : Nat} (hi : i < l.length) : indexAddrA (some 3) (SL z o l) (.int .i64 i) = some (.vptr [.int .i64 l[i].kind, .int .i64 l[i].a, IA l[i].kz .no l[i].kids]) := by
  simp [indexAddrA, hi]; rfl
theorem len_SL (z : Bool) (o : Own) (l : List SP) : lenA false (SL z o l) = some (.int .i64 l.length) := by rw [lenA_lst, List.length_map]
theorem st_new3 {m : Mem} {a b c a' b' c' : AV} (hs : shOk (some 3) (.agg [a', b', c']) = true) : storeA (some 3) (m ++ [some (Ent.obj true [a, b, c])]) (.ptr m.length 0) (.agg [a', b', c']) = some (m ++ [some (Ent.obj true [a', b', c'])]) := by
  rw [st_ptr, g_eq rfl, objE_obj, Option.bind_some]
  simp [putE1, Sh.size, hs, putAt, AV.cells]
theorem rem2 (tk : TK) (a : Int) : binA tk .rem (.int .i64 a) (.int .i64 2) = some (.int .i64 (a.tmod 2)) := by cases tk <;> rfl
/-- The store and the law's own row hold the same nodes. -/
structure Inv3 (m : Mem) (s : Nat) (F : List Nat) (arms : AV) (l : List ND) (x : AV) (T : List Nat) : Prop where
  st : St8 m s F arms 4000 l
  nr : NR 39 m x l T
  dj : ∀ k ∈ F, k ∉ T
  kn : kidsNe l
theorem St8.ok {m : Mem} {s : Nat} {F : List Nat} {arms : AV} {most : Int} {l : List ND} (h : St8 m s F arms most l) : ∀ x ∈ l, x.ok := by
  obtain ⟨p, na, T, h, _⟩ := h
  exact h.ok
theorem Inv3.app {m m' : Mem} {s : Nat} {F : List Nat} {arms : AV} {l : List ND} {x : AV} {T : List Nat} (h : Inv3 m s F arms l x T) (f : Fr m m' []) : Inv3 m' s F arms l x T :=
  ⟨h.st.app f, nr_move h.nr fun k hk => f.get k (nr_lt h.nr k hk) (by simp), h.dj, h.kn⟩
/-- Behind a call on the store. -/
theorem nr_after {m m' : Mem} {s : Nat} {F F' : List Nat} {arms : AV} {l : List ND} {x : AV} {T : List Nat} (h : Inv3 m s F arms l x T) (f : Fr m m' F) (g : Gr m F F') : NR 39 m' x l T ∧ ∀ k ∈ F', k ∉ T :=
  ⟨nr_move h.nr fun k hk => f.get k (nr_lt h.nr k hk) (fun hF => h.dj k hF hk), fun k hk hT => by
    rcases g k hk with h1 | h1
    · exact h.dj k h1 hT
    · have := nr_lt h.nr k hT; omega⟩
theorem kidsNe_ins {l : List ND} (h : kidsNe l) {n : ND} (hn : ¬ n.var < 0 → n.kids ≠ []) : kidsNe (ins l n) := by
  unfold ins
  split
  · exact h
  · intro x hx
    rcases List.mem_append.1 hx with hx | hx
    · exact h x hx
    · obtain rfl : x = n := by simpa using hx
      exact hn
theorem ins_len (l : List ND) (n : ND) : (ins l n).length ≤ l.length + 1 := by unfold ins; split <;> simp
/-- The law's own row follows. -/
theorem both_put {m m2 : Mem} {s : Nat} {F F2 : List Nat} {arms : AV} {l : List ND} {x : AV} {T : List Nat} (h : Inv3 m s F arms l x T) {n : ND} (hn : n.ok) (hne : ¬ n.var < 0 → n.kids ≠ []) {z : Bool} {o : Own} (hk : stripA (.lst none z o (n.kids.map (AV.int .i64))) = kidsA n) (hl : l.length ≤ 1000)
    (k1 : St8 m2 s F2 arms 4000 (ins l n)) (f : Fr m m2 F) (g : Gr m F F2) :
    ∃ m3 x3 T3, AC cfg 16 [x, .agg [.int .i64 n.var, .lst none z o (n.kids.map (AV.int .i64)), .int .i64 n.leaf]] m2 = some (.tup [x3, .int .i64 (l.idxOf n : Nat)], m3) ∧ Inv3 m3 s F2 arms (ins l n) x3 T3 ∧ Fr m2 m3 T := by
  obtain ⟨n1, n2⟩ := nr_after h f g
  obtain ⟨m3, x3, T3, e, a1, a2, a3⟩ := A16 n1 h.st.ok hn hk (by omega)
  refine ⟨m3, x3, T3, e, ⟨k1.fr a2 n2, a1, fun k hk hT => ?_, kidsNe_ins h.kn hne⟩, a2⟩
  rcases a3 k hT with h1 | h1
  · exact n2 k hk h1
  · have := k1.lt k hk; omega
theorem W3 {z zs zl : Bool} {o os ol : Own} {ar : List Int} {s : Nat} (har : armsE ar = 0) (sts : List SP) (hz : ∀ x ∈ sts, x.kz = true → x.kids = []) (hlen : sts.length ≤ 60) (fin : ∀ m F x l T, Inv3 m s F (IA zs os ar) l x T → l.length ≤ 60 → ∃ m', K3_10 (finK cfg.P f3.results.toList) (.exit 0) (O3_10 (.ptr s 0) x m) = some (.bool true, m')) :
    ∀ (j i : Nat) (m : Mem) (F : List Nat) (l : List ND) (x : AV) (T : List Nat), i + j = sts.length → Inv3 m s F (IA zs os ar) l x T → l.length ≤ i →
      ∃ m', L3_10 (IA z o ar) (.ptr s 0) x (SL zl ol sts) (.int .i64 sts.length) (.int .i64 i) m (K3_10 (finK cfg.P f3.results.toList)) = some (.bool true, m') := by
  obtain ⟨har1, har2⟩ := armsE_ok har
  intro j
  induction j with
  | zero =>
    intro i m F l x T hi h hl
    rw [L3_10_eq, n_lss, Option.bind_some, ifA_dec, if_neg (by omega)]
    exact fin m F x l T h (by omega)
  | succ j ih =>
    intro i m F l x T hi h hl
    have hil : i < sts.length := by omega
    have hix := idx_SL (z := zl) (o := ol) hil
    have hzi := hz _ (List.getElem_mem hil)
    generalize sts[i] = sp at hix hzi
    obtain ⟨kind, a, kz, kids⟩ := sp
    simp only at hix hzi
    have sn := st_new3 (m := m) (a := .int .i64 0) (b := .int .i64 0) (c := .lst none true .full []) (a' := .int .i64 kind) (b' := .int .i64 a) (c' := IA kz .no kids) rfl
    have h4 := h.app (Fr.app m (some (Ent.obj true [.int .i64 kind, .int .i64 a, IA kz .no kids])) [])
    generalize hm4 : m ++ [some (Ent.obj true [.int .i64 kind, .int .i64 a, IA kz .no kids])] = m4 at sn h4
    have g4 : m4.get m.length = some (Ent.obj true [.int .i64 kind, .int .i64 a, IA kz .no kids]) := by rw [← hm4]; exact (by simp (disch := (first | assumption | omega | (simp only [List.length_append, List.length_set, List.length_cons, List.length_nil]; first | done | omega))) only [resv1, g_lt, g_eq, g_sne, g_seq]; first | done | rfl)
    have l4 : m4.length = m.length + 1 := by rw [← hm4]; simp
    have notF : m.length ∉ F := fun hx => by have := h.st.lt _ hx; omega
    rw [L3_10_eq, n_lss, Option.bind_some, ifA_dec, if_pos hil]
    repeat ((with_reducible (first | apply bs | apply bsy)); (focus (first | (simp (disch := (first | assumption | omega | (simp only [List.length_append, List.length_set, List.length_cons, List.length_nil]; first | done | omega))) only [List.all_cons, List.all_nil, Bool.and_true, Bool.and_self, beq_self_eq_true, resv1, List.length_map, ld_v3, ld_v1, binA_eql, binA_neq, binA_lss, binA_leq, binA_gtr, binA_geq, loadA_one, un_not, ld_ptr, st_ptr, putE1, objE_obj, Option.bind_some, cut1, cut3, cut4, nil_ptr, fa_ptr, g_lt, g_eq, g_sne, g_seq, new_n, box_n, List.getElem?_cons_zero, List.getElem?_cons_succ, ex0, ex1, Sh.size, cells_int, aok_int, cells_bool, aok_bool, cells_str, aok_str, cells_lst, aok_lst, cells_ptr, aok_ptr, cells_arr, aok_arr, cells_fn, aok_fn, cells_mref, aok_mref, cells_nilp, aok_nilp, cells_agg, shOk_n, shOk_s, lenA_lst, List.length_cons, List.length_nil, if_true, putAt, List.take_succ_cons, List.take_zero, List.drop_succ_cons, List.drop_zero, List.cons_append, List.nil_append, List.append_nil, Nat.zero_add, Nat.reduceAdd, Nat.reduceLeDiff, Nat.le_refl, List.drop_nil, List.take_nil, List.length_append, List.length_set, hix, sn, g4, rem2]; first | done | rfl) | rfl)); try dsimp only)
    rw [ifA_dec]
    by_cases hk : kind.tmod 2 = 0
    · rw [if_pos hk]
      obtain ⟨m2, F2, e15, k1, k2, k3⟩ := A15 h4.st a (by omega) (by omega)
      have g2 : m2.get m.length = some (Ent.obj true [.int .i64 kind, .int .i64 a, IA kz .no kids]) := (k2.get _ (by omega) notF).trans g4
      by_cases ha : 0 ≤ a ∧ a ≤ 2147483647
      · rw [leafR, if_pos ha] at e15 k1
        dsimp only at e15 k1
        obtain ⟨m3, x3, T3, e16, k4, k5⟩ := both_put h4 (leafN_ok ha) (fun hv => absurd (show (-1 : Int) < 0 by decide) hv) (z := true) (o := .full) rfl (by omega) k1 k2 k3
        have e16 : AC cfg 16 [x, .agg [.int .i64 (-1), .lst none true .full [], .int .i64 a]] m2 = _ := e16
        have e20 := A20 k4.st (by omega)
        have hb : buildA (.agg [(.int .i64 0), (.lst none true .full []), (.int .i64 0)]) [(0, none, (.int .i64 (-1))), (2, none, .int .i64 a)] = some (.agg [.int .i64 (-1), .lst none true .full [], .int .i64 a]) := rfl
        repeat ((with_reducible (first | apply bs | apply bsy)); (focus (first | (simp (disch := (first | assumption | omega | (simp only [List.length_append, List.length_set, List.length_cons, List.length_nil]; first | done | omega))) only [List.all_cons, List.all_nil, Bool.and_true, Bool.and_self, beq_self_eq_true, resv1, List.length_map, ld_v3, ld_v1, binA_eql, binA_neq, binA_lss, binA_leq, binA_gtr, binA_geq, loadA_one, un_not, ld_ptr, st_ptr, putE1, objE_obj, Option.bind_some, cut1, cut3, cut4, nil_ptr, fa_ptr, g_lt, g_eq, g_sne, g_seq, new_n, box_n, List.getElem?_cons_zero, List.getElem?_cons_succ, ex0, ex1, Sh.size, cells_int, aok_int, cells_bool, aok_bool, cells_str, aok_str, cells_lst, aok_lst, cells_ptr, aok_ptr, cells_arr, aok_arr, cells_fn, aok_fn, cells_mref, aok_mref, cells_nilp, aok_nilp, cells_agg, shOk_n, shOk_s, lenA_lst, List.length_cons, List.length_nil, if_true, putAt, List.take_succ_cons, List.take_zero, List.drop_succ_cons, List.drop_zero, List.cons_append, List.nil_append, List.append_nil, Nat.zero_add, Nat.reduceAdd, Nat.reduceLeDiff, Nat.le_refl, List.drop_nil, List.take_nil, List.length_append, List.length_set, g4, e15, g2]; first | done | rfl) | rfl)); try dsimp only)
        rw [ifA_dec, if_pos ha.1]
        repeat ((with_reducible (first | apply bs | apply bsy)); (focus (first | (simp (disch := (first | assumption | omega | (simp only [List.length_append, List.length_set, List.length_cons, List.length_nil]; first | done | omega))) only [List.all_cons, List.all_nil, Bool.and_true, Bool.and_self, beq_self_eq_true, resv1, List.length_map, ld_v3, ld_v1, binA_eql, binA_neq, binA_lss, binA_leq, binA_gtr, binA_geq, loadA_one, un_not, ld_ptr, st_ptr, putE1, objE_obj, Option.bind_some, cut1, cut3, cut4, nil_ptr, fa_ptr, g_lt, g_eq, g_sne, g_seq, new_n, box_n, List.getElem?_cons_zero, List.getElem?_cons_succ, ex0, ex1, Sh.size, cells_int, aok_int, cells_bool, aok_bool, cells_str, aok_str, cells_lst, aok_lst, cells_ptr, aok_ptr, cells_arr, aok_arr, cells_fn, aok_fn, cells_mref, aok_mref, cells_nilp, aok_nilp, cells_agg, shOk_n, shOk_s, lenA_lst, List.length_cons, List.length_nil, if_true, putAt, List.take_succ_cons, List.take_zero, List.drop_succ_cons, List.drop_zero, List.cons_append, List.nil_append, List.append_nil, Nat.zero_add, Nat.reduceAdd, Nat.reduceLeDiff, Nat.le_refl, List.drop_nil, List.take_nil, List.length_append, List.length_set, g2]; first | done | rfl) | rfl)); try dsimp only)
        rw [ifA_dec, if_pos ha.2]
        repeat ((with_reducible (first | apply bs | apply bsy)); (focus (first | (simp (disch := (first | assumption | omega | (simp only [List.length_append, List.length_set, List.length_cons, List.length_nil]; first | done | omega))) only [List.all_cons, List.all_nil, Bool.and_true, Bool.and_self, beq_self_eq_true, resv1, List.length_map, ld_v3, ld_v1, binA_eql, binA_neq, binA_lss, binA_leq, binA_gtr, binA_geq, loadA_one, un_not, ld_ptr, st_ptr, putE1, objE_obj, Option.bind_some, cut1, cut3, cut4, nil_ptr, fa_ptr, g_lt, g_eq, g_sne, g_seq, new_n, box_n, List.getElem?_cons_zero, List.getElem?_cons_succ, ex0, ex1, Sh.size, cells_int, aok_int, cells_bool, aok_bool, cells_str, aok_str, cells_lst, aok_lst, cells_ptr, aok_ptr, cells_arr, aok_arr, cells_fn, aok_fn, cells_mref, aok_mref, cells_nilp, aok_nilp, cells_agg, shOk_n, shOk_s, lenA_lst, List.length_cons, List.length_nil, if_true, putAt, List.take_succ_cons, List.take_zero, List.drop_succ_cons, List.drop_zero, List.cons_append, List.nil_append, List.append_nil, Nat.zero_add, Nat.reduceAdd, Nat.reduceLeDiff, Nat.le_refl, List.drop_nil, List.take_nil, List.length_append, List.length_set, g2, hb, e16]; first | done | rfl) | rfl)); try dsimp only)
        rw [ifA_dec, if_neg (by simp)]
        repeat ((with_reducible (first | apply bs | apply bsy)); (focus (first | (simp (disch := (first | assumption | omega | (simp only [List.length_append, List.length_set, List.length_cons, List.length_nil]; first | done | omega))) only [List.all_cons, List.all_nil, Bool.and_true, Bool.and_self, beq_self_eq_true, resv1, List.length_map, ld_v3, ld_v1, binA_eql, binA_neq, binA_lss, binA_leq, binA_gtr, binA_geq, loadA_one, un_not, ld_ptr, st_ptr, putE1, objE_obj, Option.bind_some, cut1, cut3, cut4, nil_ptr, fa_ptr, g_lt, g_eq, g_sne, g_seq, new_n, box_n, List.getElem?_cons_zero, List.getElem?_cons_succ, ex0, ex1, Sh.size, cells_int, aok_int, cells_bool, aok_bool, cells_str, aok_str, cells_lst, aok_lst, cells_ptr, aok_ptr, cells_arr, aok_arr, cells_fn, aok_fn, cells_mref, aok_mref, cells_nilp, aok_nilp, cells_agg, shOk_n, shOk_s, lenA_lst, List.length_cons, List.length_nil, if_true, putAt, List.take_succ_cons, List.take_zero, List.drop_succ_cons, List.drop_zero, List.cons_append, List.nil_append, List.append_nil, Nat.zero_add, Nat.reduceAdd, Nat.reduceLeDiff, Nat.le_refl, List.drop_nil, List.take_nil, List.length_append, List.length_set]; first | done | rfl) | rfl)); try dsimp only)
        rw [ifA_dec, if_neg (by simp)]
        repeat ((with_reducible (first | apply bs | apply bsy)); (focus (first | (simp (disch := (first | assumption | omega | (simp only [List.length_append, List.length_set, List.length_cons, List.length_nil]; first | done | omega))) only [List.all_cons, List.all_nil, Bool.and_true, Bool.and_self, beq_self_eq_true, resv1, List.length_map, ld_v3, ld_v1, binA_eql, binA_neq, binA_lss, binA_leq, binA_gtr, binA_geq, loadA_one, un_not, ld_ptr, st_ptr, putE1, objE_obj, Option.bind_some, cut1, cut3, cut4, nil_ptr, fa_ptr, g_lt, g_eq, g_sne, g_seq, new_n, box_n, List.getElem?_cons_zero, List.getElem?_cons_succ, ex0, ex1, Sh.size, cells_int, aok_int, cells_bool, aok_bool, cells_str, aok_str, cells_lst, aok_lst, cells_ptr, aok_ptr, cells_arr, aok_arr, cells_fn, aok_fn, cells_mref, aok_mref, cells_nilp, aok_nilp, cells_agg, shOk_n, shOk_s, lenA_lst, List.length_cons, List.length_nil, if_true, putAt, List.take_succ_cons, List.take_zero, List.drop_succ_cons, List.drop_zero, List.cons_append, List.nil_append, List.append_nil, Nat.zero_add, Nat.reduceAdd, Nat.reduceLeDiff, Nat.le_refl, List.drop_nil, List.take_nil, List.length_append, List.length_set, e20, nr_len k4.nr]; first | done | rfl) | rfl)); try dsimp only)
        rw [ifA_dec, if_neg (by simp), i_add1 (by omega), Option.bind_some]
        exact ih (i + 1) m3 F2 _ x3 T3 (by omega) k4 (by have := ins_len l (leafN a); omega)
      · rw [leafR, if_neg ha] at e15 k1
        dsimp only at e15 k1
        obtain ⟨n1, n2⟩ := nr_after h4 k2 k3
        have e20 := A20 k1 (by omega)
        have nxt := ih (i + 1) m2 F2 l x T (by omega) ⟨k1, n1, n2, h.kn⟩ (by omega)
        have ln := nr_len n1
        repeat ((with_reducible (first | apply bs | apply bsy)); (focus (first | (simp (disch := (first | assumption | omega | (simp only [List.length_append, List.length_set, List.length_cons, List.length_nil]; first | done | omega))) only [List.all_cons, List.all_nil, Bool.and_true, Bool.and_self, beq_self_eq_true, resv1, List.length_map, ld_v3, ld_v1, binA_eql, binA_neq, binA_lss, binA_leq, binA_gtr, binA_geq, loadA_one, un_not, ld_ptr, st_ptr, putE1, objE_obj, Option.bind_some, cut1, cut3, cut4, nil_ptr, fa_ptr, g_lt, g_eq, g_sne, g_seq, new_n, box_n, List.getElem?_cons_zero, List.getElem?_cons_succ, ex0, ex1, Sh.size, cells_int, aok_int, cells_bool, aok_bool, cells_str, aok_str, cells_lst, aok_lst, cells_ptr, aok_ptr, cells_arr, aok_arr, cells_fn, aok_fn, cells_mref, aok_mref, cells_nilp, aok_nilp, cells_agg, shOk_n, shOk_s, lenA_lst, List.length_cons, List.length_nil, if_true, putAt, List.take_succ_cons, List.take_zero, List.drop_succ_cons, List.drop_zero, List.cons_append, List.nil_append, List.append_nil, Nat.zero_add, Nat.reduceAdd, Nat.reduceLeDiff, Nat.le_refl, List.drop_nil, List.take_nil, List.length_append, List.length_set, g4, e15, g2]; first | done | rfl) | rfl)); try dsimp only)
        rw [ifA_dec]
        by_cases ha0 : a ≥ 0
        · rw [if_pos ha0]
          repeat ((with_reducible (first | apply bs | apply bsy)); (focus (first | (simp (disch := (first | assumption | omega | (simp only [List.length_append, List.length_set, List.length_cons, List.length_nil]; first | done | omega))) only [List.all_cons, List.all_nil, Bool.and_true, Bool.and_self, beq_self_eq_true, resv1, List.length_map, ld_v3, ld_v1, binA_eql, binA_neq, binA_lss, binA_leq, binA_gtr, binA_geq, loadA_one, un_not, ld_ptr, st_ptr, putE1, objE_obj, Option.bind_some, cut1, cut3, cut4, nil_ptr, fa_ptr, g_lt, g_eq, g_sne, g_seq, new_n, box_n, List.getElem?_cons_zero, List.getElem?_cons_succ, ex0, ex1, Sh.size, cells_int, aok_int, cells_bool, aok_bool, cells_str, aok_str, cells_lst, aok_lst, cells_ptr, aok_ptr, cells_arr, aok_arr, cells_fn, aok_fn, cells_mref, aok_mref, cells_nilp, aok_nilp, cells_agg, shOk_n, shOk_s, lenA_lst, List.length_cons, List.length_nil, if_true, putAt, List.take_succ_cons, List.take_zero, List.drop_succ_cons, List.drop_zero, List.cons_append, List.nil_append, List.append_nil, Nat.zero_add, Nat.reduceAdd, Nat.reduceLeDiff, Nat.le_refl, List.drop_nil, List.take_nil, List.length_append, List.length_set, g2]; first | done | rfl) | rfl)); try dsimp only)
          rw [ifA_dec, if_neg (by omega)]
          repeat ((with_reducible (first | apply bs | apply bsy)); (focus (first | (simp (disch := (first | assumption | omega | (simp only [List.length_append, List.length_set, List.length_cons, List.length_nil]; first | done | omega))) only [List.all_cons, List.all_nil, Bool.and_true, Bool.and_self, beq_self_eq_true, resv1, List.length_map, ld_v3, ld_v1, binA_eql, binA_neq, binA_lss, binA_leq, binA_gtr, binA_geq, loadA_one, un_not, ld_ptr, st_ptr, putE1, objE_obj, Option.bind_some, cut1, cut3, cut4, nil_ptr, fa_ptr, g_lt, g_eq, g_sne, g_seq, new_n, box_n, List.getElem?_cons_zero, List.getElem?_cons_succ, ex0, ex1, Sh.size, cells_int, aok_int, cells_bool, aok_bool, cells_str, aok_str, cells_lst, aok_lst, cells_ptr, aok_ptr, cells_arr, aok_arr, cells_fn, aok_fn, cells_mref, aok_mref, cells_nilp, aok_nilp, cells_agg, shOk_n, shOk_s, lenA_lst, List.length_cons, List.length_nil, if_true, putAt, List.take_succ_cons, List.take_zero, List.drop_succ_cons, List.drop_zero, List.cons_append, List.nil_append, List.append_nil, Nat.zero_add, Nat.reduceAdd, Nat.reduceLeDiff, Nat.le_refl, List.drop_nil, List.take_nil, List.length_append, List.length_set]; first | done | rfl) | rfl)); try dsimp only)
          rw [ifA_dec, if_neg (by simp)]
          repeat ((with_reducible (first | apply bs | apply bsy)); (focus (first | (simp (disch := (first | assumption | omega | (simp only [List.length_append, List.length_set, List.length_cons, List.length_nil]; first | done | omega))) only [List.all_cons, List.all_nil, Bool.and_true, Bool.and_self, beq_self_eq_true, resv1, List.length_map, ld_v3, ld_v1, binA_eql, binA_neq, binA_lss, binA_leq, binA_gtr, binA_geq, loadA_one, un_not, ld_ptr, st_ptr, putE1, objE_obj, Option.bind_some, cut1, cut3, cut4, nil_ptr, fa_ptr, g_lt, g_eq, g_sne, g_seq, new_n, box_n, List.getElem?_cons_zero, List.getElem?_cons_succ, ex0, ex1, Sh.size, cells_int, aok_int, cells_bool, aok_bool, cells_str, aok_str, cells_lst, aok_lst, cells_ptr, aok_ptr, cells_arr, aok_arr, cells_fn, aok_fn, cells_mref, aok_mref, cells_nilp, aok_nilp, cells_agg, shOk_n, shOk_s, lenA_lst, List.length_cons, List.length_nil, if_true, putAt, List.take_succ_cons, List.take_zero, List.drop_succ_cons, List.drop_zero, List.cons_append, List.nil_append, List.append_nil, Nat.zero_add, Nat.reduceAdd, Nat.reduceLeDiff, Nat.le_refl, List.drop_nil, List.take_nil, List.length_append, List.length_set]; first | done | rfl) | rfl)); try dsimp only)
          rw [ifA_dec, if_neg (by simp)]
          repeat ((with_reducible (first | apply bs | apply bsy)); (focus (first | (simp (disch := (first | assumption | omega | (simp only [List.length_append, List.length_set, List.length_cons, List.length_nil]; first | done | omega))) only [List.all_cons, List.all_nil, Bool.and_true, Bool.and_self, beq_self_eq_true, resv1, List.length_map, ld_v3, ld_v1, binA_eql, binA_neq, binA_lss, binA_leq, binA_gtr, binA_geq, loadA_one, un_not, ld_ptr, st_ptr, putE1, objE_obj, Option.bind_some, cut1, cut3, cut4, nil_ptr, fa_ptr, g_lt, g_eq, g_sne, g_seq, new_n, box_n, List.getElem?_cons_zero, List.getElem?_cons_succ, ex0, ex1, Sh.size, cells_int, aok_int, cells_bool, aok_bool, cells_str, aok_str, cells_lst, aok_lst, cells_ptr, aok_ptr, cells_arr, aok_arr, cells_fn, aok_fn, cells_mref, aok_mref, cells_nilp, aok_nilp, cells_agg, shOk_n, shOk_s, lenA_lst, List.length_cons, List.length_nil, if_true, putAt, List.take_succ_cons, List.take_zero, List.drop_succ_cons, List.drop_zero, List.cons_append, List.nil_append, List.append_nil, Nat.zero_add, Nat.reduceAdd, Nat.reduceLeDiff, Nat.le_refl, List.drop_nil, List.take_nil, List.length_append, List.length_set, e20, ln]; first | done | rfl) | rfl)); try dsimp only)
          rw [ifA_dec, if_neg (by simp), i_add1 (by omega), Option.bind_some]
          exact nxt
        · rw [if_neg ha0]
          repeat ((with_reducible (first | apply bs | apply bsy)); (focus (first | (simp (disch := (first | assumption | omega | (simp only [List.length_append, List.length_set, List.length_cons, List.length_nil]; first | done | omega))) only [List.all_cons, List.all_nil, Bool.and_true, Bool.and_self, beq_self_eq_true, resv1, List.length_map, ld_v3, ld_v1, binA_eql, binA_neq, binA_lss, binA_leq, binA_gtr, binA_geq, loadA_one, un_not, ld_ptr, st_ptr, putE1, objE_obj, Option.bind_some, cut1, cut3, cut4, nil_ptr, fa_ptr, g_lt, g_eq, g_sne, g_seq, new_n, box_n, List.getElem?_cons_zero, List.getElem?_cons_succ, ex0, ex1, Sh.size, cells_int, aok_int, cells_bool, aok_bool, cells_str, aok_str, cells_lst, aok_lst, cells_ptr, aok_ptr, cells_arr, aok_arr, cells_fn, aok_fn, cells_mref, aok_mref, cells_nilp, aok_nilp, cells_agg, shOk_n, shOk_s, lenA_lst, List.length_cons, List.length_nil, if_true, putAt, List.take_succ_cons, List.take_zero, List.drop_succ_cons, List.drop_zero, List.cons_append, List.nil_append, List.append_nil, Nat.zero_add, Nat.reduceAdd, Nat.reduceLeDiff, Nat.le_refl, List.drop_nil, List.take_nil, List.length_append, List.length_set]; first | done | rfl) | rfl)); try dsimp only)
          rw [ifA_dec, if_neg (by simp)]
          repeat ((with_reducible (first | apply bs | apply bsy)); (focus (first | (simp (disch := (first | assumption | omega | (simp only [List.length_append, List.length_set, List.length_cons, List.length_nil]; first | done | omega))) only [List.all_cons, List.all_nil, Bool.and_true, Bool.and_self, beq_self_eq_true, resv1, List.length_map, ld_v3, ld_v1, binA_eql, binA_neq, binA_lss, binA_leq, binA_gtr, binA_geq, loadA_one, un_not, ld_ptr, st_ptr, putE1, objE_obj, Option.bind_some, cut1, cut3, cut4, nil_ptr, fa_ptr, g_lt, g_eq, g_sne, g_seq, new_n, box_n, List.getElem?_cons_zero, List.getElem?_cons_succ, ex0, ex1, Sh.size, cells_int, aok_int, cells_bool, aok_bool, cells_str, aok_str, cells_lst, aok_lst, cells_ptr, aok_ptr, cells_arr, aok_arr, cells_fn, aok_fn, cells_mref, aok_mref, cells_nilp, aok_nilp, cells_agg, shOk_n, shOk_s, lenA_lst, List.length_cons, List.length_nil, if_true, putAt, List.take_succ_cons, List.take_zero, List.drop_succ_cons, List.drop_zero, List.cons_append, List.nil_append, List.append_nil, Nat.zero_add, Nat.reduceAdd, Nat.reduceLeDiff, Nat.le_refl, List.drop_nil, List.take_nil, List.length_append, List.length_set]; first | done | rfl) | rfl)); try dsimp only)
          rw [ifA_dec, if_neg (by simp)]
          repeat ((with_reducible (first | apply bs | apply bsy)); (focus (first | (simp (disch := (first | assumption | omega | (simp only [List.length_append, List.length_set, List.length_cons, List.length_nil]; first | done | omega))) only [List.all_cons, List.all_nil, Bool.and_true, Bool.and_self, beq_self_eq_true, resv1, List.length_map, ld_v3, ld_v1, binA_eql, binA_neq, binA_lss, binA_leq, binA_gtr, binA_geq, loadA_one, un_not, ld_ptr, st_ptr, putE1, objE_obj, Option.bind_some, cut1, cut3, cut4, nil_ptr, fa_ptr, g_lt, g_eq, g_sne, g_seq, new_n, box_n, List.getElem?_cons_zero, List.getElem?_cons_succ, ex0, ex1, Sh.size, cells_int, aok_int, cells_bool, aok_bool, cells_str, aok_str, cells_lst, aok_lst, cells_ptr, aok_ptr, cells_arr, aok_arr, cells_fn, aok_fn, cells_mref, aok_mref, cells_nilp, aok_nilp, cells_agg, shOk_n, shOk_s, lenA_lst, List.length_cons, List.length_nil, if_true, putAt, List.take_succ_cons, List.take_zero, List.drop_succ_cons, List.drop_zero, List.cons_append, List.nil_append, List.append_nil, Nat.zero_add, Nat.reduceAdd, Nat.reduceLeDiff, Nat.le_refl, List.drop_nil, List.take_nil, List.length_append, List.length_set, e20, ln]; first | done | rfl) | rfl)); try dsimp only)
          rw [ifA_dec, if_neg (by simp), i_add1 (by omega), Option.bind_some]
          exact nxt
    · rw [if_neg hk]
      have hmin : maxA false (.int .i64 kids.length) (.int .i64 70) = some (.int .i64 (min kids.length 70 : Nat)) := by
        simp only [maxA, if_true, Bool.false_eq_true, if_false]
        congr 2
        split <;> omega
      have hsl := slice_IA kz .no kids .i64 (min kids.length 70) (by omega)
      have hkz : kz = true → kids.take (min kids.length 70) = [] := fun h => by rw [hzi h]; rfl
      have hkl : (kids.take (min kids.length 70)).length ≤ 70 := by rw [List.length_take]; omega
      generalize kids.take (min kids.length 70) = ks at hsl hkz hkl
      obtain ⟨m2, F2, e17, k1, k2, k3⟩ := A17 (kz := kz) (ko := .no) (ks := ks) h4.st a hkz har2 har1 (by omega) (by omega) (by omega)
      have g2 : m2.get m.length = some (Ent.obj true [.int .i64 kind, .int .i64 a, IA kz .no kids]) := (k2.get _ (by omega) notF).trans g4
      obtain ⟨x1, hx0, hx1, hx2⟩ := nr_fz h.nr
      have e18 := fun m => pc18 z kz o .no ar l x x1 hx0 hx1 hx2 a ks h.st.ok ⟨by omega, by omega⟩ none m
      repeat ((with_reducible (first | apply bs | apply bsy)); (focus (first | (simp (disch := (first | assumption | omega | (simp only [List.length_append, List.length_set, List.length_cons, List.length_nil]; first | done | omega))) only [List.all_cons, List.all_nil, Bool.and_true, Bool.and_self, beq_self_eq_true, resv1, List.length_map, ld_v3, ld_v1, binA_eql, binA_neq, binA_lss, binA_leq, binA_gtr, binA_geq, loadA_one, un_not, ld_ptr, st_ptr, putE1, objE_obj, Option.bind_some, cut1, cut3, cut4, nil_ptr, fa_ptr, g_lt, g_eq, g_sne, g_seq, new_n, box_n, List.getElem?_cons_zero, List.getElem?_cons_succ, ex0, ex1, Sh.size, cells_int, aok_int, cells_bool, aok_bool, cells_str, aok_str, cells_lst, aok_lst, cells_ptr, aok_ptr, cells_arr, aok_arr, cells_fn, aok_fn, cells_mref, aok_mref, cells_nilp, aok_nilp, cells_agg, shOk_n, shOk_s, lenA_lst, List.length_cons, List.length_nil, if_true, putAt, List.take_succ_cons, List.take_zero, List.drop_succ_cons, List.drop_zero, List.cons_append, List.nil_append, List.append_nil, Nat.zero_add, Nat.reduceAdd, Nat.reduceLeDiff, Nat.le_refl, List.drop_nil, List.take_nil, List.length_append, List.length_set, g4, hmin, hsl, e17, g2, e18]; first | done | rfl) | rfl)); try dsimp only)
      rw [makeR_eq] at k1 ⊢
      by_cases hm : mayB ar l a ks = true
      · rw [if_pos hm] at k1 ⊢
        dsimp only at k1 ⊢
        have hm' := hm
        unfold mayB at hm
        simp only [Bool.and_eq_true, decide_eq_true_eq] at hm
        obtain ⟨⟨ha0, ha1, hal⟩, hall⟩ := hm
        obtain ⟨t, rfl⟩ := Int.eq_ofNat_of_zero_le ha0
        have ht : t < ar.length := by omega
        have hai : ar.getD ((t : Int).toNat) 0 = ar[t] := by rw [Int.toNat_natCast, List.getD_eq_getElem?_getD, List.getElem?_eq_getElem ht, Option.getD_some]
        have hab := har2 ar[t] (List.getElem_mem ht)
        rw [hai] at hal
        have hne : ks ≠ [] := fun e => by rw [e] at hal; simp at hal; omega
        have hkf : kz = false := by cases kz with
          | false => rfl
          | true => exact absurd (hkz rfl) hne
        have e19 := fun m => pc19 kz .no ks hne (by omega) m
        rw [hm', ifA_t]
        repeat ((with_reducible (first | apply bs | apply bsy)); (focus (first | (simp (disch := (first | assumption | omega | (simp only [List.length_append, List.length_set, List.length_cons, List.length_nil]; first | done | omega))) only [List.all_cons, List.all_nil, Bool.and_true, Bool.and_self, beq_self_eq_true, resv1, List.length_map, ld_v3, ld_v1, binA_eql, binA_neq, binA_lss, binA_leq, binA_gtr, binA_geq, loadA_one, un_not, ld_ptr, st_ptr, putE1, objE_obj, Option.bind_some, cut1, cut3, cut4, nil_ptr, fa_ptr, g_lt, g_eq, g_sne, g_seq, new_n, box_n, List.getElem?_cons_zero, List.getElem?_cons_succ, ex0, ex1, Sh.size, cells_int, aok_int, cells_bool, aok_bool, cells_str, aok_str, cells_lst, aok_lst, cells_ptr, aok_ptr, cells_arr, aok_arr, cells_fn, aok_fn, cells_mref, aok_mref, cells_nilp, aok_nilp, cells_agg, shOk_n, shOk_s, lenA_lst, List.length_cons, List.length_nil, if_true, putAt, List.take_succ_cons, List.take_zero, List.drop_succ_cons, List.drop_zero, List.cons_append, List.nil_append, List.append_nil, Nat.zero_add, Nat.reduceAdd, Nat.reduceLeDiff, Nat.le_refl, List.drop_nil, List.take_nil, List.length_append, List.length_set, e19]; first | done | rfl) | rfl)); try dsimp only)
        obtain ⟨k0, kt, rfl⟩ := List.exists_cons_of_ne_nil hne
        rw [List.headD_cons]
        rw [nodeR_cons] at k1 ⊢
        have i0 := idx_IA0 (z := kz) (o := .no) (k := .i64) (ns := k0 :: kt) (by simp)
        by_cases hq : ((k0 :: kt).all fun k => k == k0) = true
        · rw [if_pos hq] at k1 ⊢
          dsimp only at k1 ⊢
          obtain ⟨n1, n2⟩ := nr_after h4 k2 k3
          have e20 := A20 k1 (by omega)
          have ln := nr_len n1
          rw [hq, ifA_t]
          repeat ((with_reducible (first | apply bs | apply bsy)); (focus (first | (simp (disch := (first | assumption | omega | (simp only [List.length_append, List.length_set, List.length_cons, List.length_nil]; first | done | omega))) only [List.all_cons, List.all_nil, Bool.and_true, Bool.and_self, beq_self_eq_true, resv1, List.length_map, ld_v3, ld_v1, binA_eql, binA_neq, binA_lss, binA_leq, binA_gtr, binA_geq, loadA_one, un_not, ld_ptr, st_ptr, putE1, objE_obj, Option.bind_some, cut1, cut3, cut4, nil_ptr, fa_ptr, g_lt, g_eq, g_sne, g_seq, new_n, box_n, List.getElem?_cons_zero, List.getElem?_cons_succ, ex0, ex1, Sh.size, cells_int, aok_int, cells_bool, aok_bool, cells_str, aok_str, cells_lst, aok_lst, cells_ptr, aok_ptr, cells_arr, aok_arr, cells_fn, aok_fn, cells_mref, aok_mref, cells_nilp, aok_nilp, cells_agg, shOk_n, shOk_s, lenA_lst, List.length_cons, List.length_nil, if_true, putAt, List.take_succ_cons, List.take_zero, List.drop_succ_cons, List.drop_zero, List.cons_append, List.nil_append, List.append_nil, Nat.zero_add, Nat.reduceAdd, Nat.reduceLeDiff, Nat.le_refl, List.drop_nil, List.take_nil, List.length_append, List.length_set, i0]; first | done | rfl) | rfl)); try dsimp only)
          rw [ifA_dec, if_neg (by simp)]
          repeat ((with_reducible (first | apply bs | apply bsy)); (focus (first | (simp (disch := (first | assumption | omega | (simp only [List.length_append, List.length_set, List.length_cons, List.length_nil]; first | done | omega))) only [List.all_cons, List.all_nil, Bool.and_true, Bool.and_self, beq_self_eq_true, resv1, List.length_map, ld_v3, ld_v1, binA_eql, binA_neq, binA_lss, binA_leq, binA_gtr, binA_geq, loadA_one, un_not, ld_ptr, st_ptr, putE1, objE_obj, Option.bind_some, cut1, cut3, cut4, nil_ptr, fa_ptr, g_lt, g_eq, g_sne, g_seq, new_n, box_n, List.getElem?_cons_zero, List.getElem?_cons_succ, ex0, ex1, Sh.size, cells_int, aok_int, cells_bool, aok_bool, cells_str, aok_str, cells_lst, aok_lst, cells_ptr, aok_ptr, cells_arr, aok_arr, cells_fn, aok_fn, cells_mref, aok_mref, cells_nilp, aok_nilp, cells_agg, shOk_n, shOk_s, lenA_lst, List.length_cons, List.length_nil, if_true, putAt, List.take_succ_cons, List.take_zero, List.drop_succ_cons, List.drop_zero, List.cons_append, List.nil_append, List.append_nil, Nat.zero_add, Nat.reduceAdd, Nat.reduceLeDiff, Nat.le_refl, List.drop_nil, List.take_nil, List.length_append, List.length_set]; first | done | rfl) | rfl)); try dsimp only)
          rw [ifA_dec, if_neg (by simp)]
          repeat ((with_reducible (first | apply bs | apply bsy)); (focus (first | (simp (disch := (first | assumption | omega | (simp only [List.length_append, List.length_set, List.length_cons, List.length_nil]; first | done | omega))) only [List.all_cons, List.all_nil, Bool.and_true, Bool.and_self, beq_self_eq_true, resv1, List.length_map, ld_v3, ld_v1, binA_eql, binA_neq, binA_lss, binA_leq, binA_gtr, binA_geq, loadA_one, un_not, ld_ptr, st_ptr, putE1, objE_obj, Option.bind_some, cut1, cut3, cut4, nil_ptr, fa_ptr, g_lt, g_eq, g_sne, g_seq, new_n, box_n, List.getElem?_cons_zero, List.getElem?_cons_succ, ex0, ex1, Sh.size, cells_int, aok_int, cells_bool, aok_bool, cells_str, aok_str, cells_lst, aok_lst, cells_ptr, aok_ptr, cells_arr, aok_arr, cells_fn, aok_fn, cells_mref, aok_mref, cells_nilp, aok_nilp, cells_agg, shOk_n, shOk_s, lenA_lst, List.length_cons, List.length_nil, if_true, putAt, List.take_succ_cons, List.take_zero, List.drop_succ_cons, List.drop_zero, List.cons_append, List.nil_append, List.append_nil, Nat.zero_add, Nat.reduceAdd, Nat.reduceLeDiff, Nat.le_refl, List.drop_nil, List.take_nil, List.length_append, List.length_set, e20, ln]; first | done | rfl) | rfl)); try dsimp only)
          rw [ifA_dec, if_neg (by simp), i_add1 (by omega), Option.bind_some]
          exact ih (i + 1) m2 F2 l x T (by omega) ⟨k1, n1, n2, h.kn⟩ (by omega)
        · rw [if_neg hq] at k1 ⊢
          dsimp only at k1 ⊢
          have hq' : ((k0 :: kt).all fun k => k == k0) = false := by simpa using hq
          rw [hq', ifA_f]
          obtain ⟨o', m3, ea, f3, ho⟩ := app_ints m2 kz .no (k0 :: kt) (by omega)
          have ho : o' = .tok m2.length 3 := ho.resolve_left (fun h => by cases h.2)
          have g3 : m3.get m.length = some (Ent.obj true [.int .i64 kind, .int .i64 t, IA kz .no kids]) := (f3.get _ (get_lt g2) (by simp)).trans g2
          have hn : (nodeN t (k0 :: kt)).ok := by
            refine .inr ⟨by simp only [nodeN]; omega, by simp only [nodeN]; omega, rfl, fun k hk' => ?_, by simp only [nodeN]; omega⟩
            have := List.all_eq_true.1 hall k hk'
            unfold kidOk at this
            simp only [Bool.and_eq_true, decide_eq_true_eq] at this
            omega
          have hv : ¬ (nodeN t (k0 :: kt)).var < 0 := by simp only [nodeN]; omega
          have hstr : stripA (.lst none false o' (((nodeN t (k0 :: kt)).kids).map (AV.int .i64))) = kidsA (nodeN t (k0 :: kt)) := by
            unfold kidsA
            rw [if_neg hv, ho]; rfl
          obtain ⟨m5, x5, T5, e16, k4, k5⟩ := both_put h4 hn (fun _ => by simp [nodeN]) hstr (by omega) (k1.app f3) (Fr.trans k2 f3 fun _ h => by cases h) k3
          have e16 : AC cfg 16 [x, .agg [.int .i64 t, IA false o' (k0 :: kt), .int .i64 0]] m3 = _ := e16
          have e20 := A20 k4.st (by omega)
          have hb : buildA (.agg [(.int .i64 0), (.lst none true .full []), (.int .i64 0)]) [(0, none, .int .i64 t), (1, none, IA false o' (k0 :: kt))] = some (.agg [.int .i64 t, IA false o' (k0 :: kt), .int .i64 0]) := rfl
          have hbs0 : buildSliceA none [] = some (.lst none false .full []) := rfl
          repeat ((with_reducible (first | apply bs | apply bsy)); (focus (first | (simp (disch := (first | assumption | omega | (simp only [List.length_append, List.length_set, List.length_cons, List.length_nil]; first | done | omega))) only [List.all_cons, List.all_nil, Bool.and_true, Bool.and_self, beq_self_eq_true, resv1, List.length_map, ld_v3, ld_v1, binA_eql, binA_neq, binA_lss, binA_leq, binA_gtr, binA_geq, loadA_one, un_not, ld_ptr, st_ptr, putE1, objE_obj, Option.bind_some, cut1, cut3, cut4, nil_ptr, fa_ptr, g_lt, g_eq, g_sne, g_seq, new_n, box_n, List.getElem?_cons_zero, List.getElem?_cons_succ, ex0, ex1, Sh.size, cells_int, aok_int, cells_bool, aok_bool, cells_str, aok_str, cells_lst, aok_lst, cells_ptr, aok_ptr, cells_arr, aok_arr, cells_fn, aok_fn, cells_mref, aok_mref, cells_nilp, aok_nilp, cells_agg, shOk_n, shOk_s, lenA_lst, List.length_cons, List.length_nil, if_true, putAt, List.take_succ_cons, List.take_zero, List.drop_succ_cons, List.drop_zero, List.cons_append, List.nil_append, List.append_nil, Nat.zero_add, Nat.reduceAdd, Nat.reduceLeDiff, Nat.le_refl, List.drop_nil, List.take_nil, List.length_append, List.length_set, g2, hbs0, ea]; first | done | rfl) | rfl)); try dsimp only)
          rw [ifP_pos (by simp only [new_n, ld_ptr, g3, objE_obj, Option.bind_some]; rfl)]
          repeat ((with_reducible (first | apply bs | apply bsy)); (focus (first | (simp (disch := (first | assumption | omega | (simp only [List.length_append, List.length_set, List.length_cons, List.length_nil]; first | done | omega))) only [List.all_cons, List.all_nil, Bool.and_true, Bool.and_self, beq_self_eq_true, resv1, List.length_map, ld_v3, ld_v1, binA_eql, binA_neq, binA_lss, binA_leq, binA_gtr, binA_geq, loadA_one, un_not, ld_ptr, st_ptr, putE1, objE_obj, Option.bind_some, cut1, cut3, cut4, nil_ptr, fa_ptr, g_lt, g_eq, g_sne, g_seq, new_n, box_n, List.getElem?_cons_zero, List.getElem?_cons_succ, ex0, ex1, Sh.size, cells_int, aok_int, cells_bool, aok_bool, cells_str, aok_str, cells_lst, aok_lst, cells_ptr, aok_ptr, cells_arr, aok_arr, cells_fn, aok_fn, cells_mref, aok_mref, cells_nilp, aok_nilp, cells_agg, shOk_n, shOk_s, lenA_lst, List.length_cons, List.length_nil, if_true, putAt, List.take_succ_cons, List.take_zero, List.drop_succ_cons, List.drop_zero, List.cons_append, List.nil_append, List.append_nil, Nat.zero_add, Nat.reduceAdd, Nat.reduceLeDiff, Nat.le_refl, List.drop_nil, List.take_nil, List.length_append, List.length_set, hb, e16]; first | done | rfl) | rfl)); try dsimp only)
          rw [ifA_dec, if_neg (by simp)]
          repeat ((with_reducible (first | apply bs | apply bsy)); (focus (first | (simp (disch := (first | assumption | omega | (simp only [List.length_append, List.length_set, List.length_cons, List.length_nil]; first | done | omega))) only [List.all_cons, List.all_nil, Bool.and_true, Bool.and_self, beq_self_eq_true, resv1, List.length_map, ld_v3, ld_v1, binA_eql, binA_neq, binA_lss, binA_leq, binA_gtr, binA_geq, loadA_one, un_not, ld_ptr, st_ptr, putE1, objE_obj, Option.bind_some, cut1, cut3, cut4, nil_ptr, fa_ptr, g_lt, g_eq, g_sne, g_seq, new_n, box_n, List.getElem?_cons_zero, List.getElem?_cons_succ, ex0, ex1, Sh.size, cells_int, aok_int, cells_bool, aok_bool, cells_str, aok_str, cells_lst, aok_lst, cells_ptr, aok_ptr, cells_arr, aok_arr, cells_fn, aok_fn, cells_mref, aok_mref, cells_nilp, aok_nilp, cells_agg, shOk_n, shOk_s, lenA_lst, List.length_cons, List.length_nil, if_true, putAt, List.take_succ_cons, List.take_zero, List.drop_succ_cons, List.drop_zero, List.cons_append, List.nil_append, List.append_nil, Nat.zero_add, Nat.reduceAdd, Nat.reduceLeDiff, Nat.le_refl, List.drop_nil, List.take_nil, List.length_append, List.length_set]; first | done | rfl) | rfl)); try dsimp only)
          rw [ifA_dec, if_neg (by simp)]
          repeat ((with_reducible (first | apply bs | apply bsy)); (focus (first | (simp (disch := (first | assumption | omega | (simp only [List.length_append, List.length_set, List.length_cons, List.length_nil]; first | done | omega))) only [List.all_cons, List.all_nil, Bool.and_true, Bool.and_self, beq_self_eq_true, resv1, List.length_map, ld_v3, ld_v1, binA_eql, binA_neq, binA_lss, binA_leq, binA_gtr, binA_geq, loadA_one, un_not, ld_ptr, st_ptr, putE1, objE_obj, Option.bind_some, cut1, cut3, cut4, nil_ptr, fa_ptr, g_lt, g_eq, g_sne, g_seq, new_n, box_n, List.getElem?_cons_zero, List.getElem?_cons_succ, ex0, ex1, Sh.size, cells_int, aok_int, cells_bool, aok_bool, cells_str, aok_str, cells_lst, aok_lst, cells_ptr, aok_ptr, cells_arr, aok_arr, cells_fn, aok_fn, cells_mref, aok_mref, cells_nilp, aok_nilp, cells_agg, shOk_n, shOk_s, lenA_lst, List.length_cons, List.length_nil, if_true, putAt, List.take_succ_cons, List.take_zero, List.drop_succ_cons, List.drop_zero, List.cons_append, List.nil_append, List.append_nil, Nat.zero_add, Nat.reduceAdd, Nat.reduceLeDiff, Nat.le_refl, List.drop_nil, List.take_nil, List.length_append, List.length_set, e20, nr_len k4.nr]; first | done | rfl) | rfl)); try dsimp only)
          rw [ifA_dec, if_neg (by simp), i_add1 (by omega), Option.bind_some]
          exact ih (i + 1) m5 F2 _ x5 T5 (by omega) k4 (by have := ins_len l (nodeN t (k0 :: kt)); omega)
      · rw [if_neg hm] at k1 ⊢
        dsimp only at k1 ⊢
        have hm' : mayB ar l a ks = false := by simpa using hm
        obtain ⟨n1, n2⟩ := nr_after h4 k2 k3
        have e20 := A20 k1 (by omega)
        have ln := nr_len n1
        rw [hm', ifA_f]
        repeat ((with_reducible (first | apply bs | apply bsy)); (focus (first | (simp (disch := (first | assumption | omega | (simp only [List.length_append, List.length_set, List.length_cons, List.length_nil]; first | done | omega))) only [List.all_cons, List.all_nil, Bool.and_true, Bool.and_self, beq_self_eq_true, resv1, List.length_map, ld_v3, ld_v1, binA_eql, binA_neq, binA_lss, binA_leq, binA_gtr, binA_geq, loadA_one, un_not, ld_ptr, st_ptr, putE1, objE_obj, Option.bind_some, cut1, cut3, cut4, nil_ptr, fa_ptr, g_lt, g_eq, g_sne, g_seq, new_n, box_n, List.getElem?_cons_zero, List.getElem?_cons_succ, ex0, ex1, Sh.size, cells_int, aok_int, cells_bool, aok_bool, cells_str, aok_str, cells_lst, aok_lst, cells_ptr, aok_ptr, cells_arr, aok_arr, cells_fn, aok_fn, cells_mref, aok_mref, cells_nilp, aok_nilp, cells_agg, shOk_n, shOk_s, lenA_lst, List.length_cons, List.length_nil, if_true, putAt, List.take_succ_cons, List.take_zero, List.drop_succ_cons, List.drop_zero, List.cons_append, List.nil_append, List.append_nil, Nat.zero_add, Nat.reduceAdd, Nat.reduceLeDiff, Nat.le_refl, List.drop_nil, List.take_nil, List.length_append, List.length_set]; first | done | rfl) | rfl)); try dsimp only)
        rw [ifA_dec, if_neg (by simp)]
        repeat ((with_reducible (first | apply bs | apply bsy)); (focus (first | (simp (disch := (first | assumption | omega | (simp only [List.length_append, List.length_set, List.length_cons, List.length_nil]; first | done | omega))) only [List.all_cons, List.all_nil, Bool.and_true, Bool.and_self, beq_self_eq_true, resv1, List.length_map, ld_v3, ld_v1, binA_eql, binA_neq, binA_lss, binA_leq, binA_gtr, binA_geq, loadA_one, un_not, ld_ptr, st_ptr, putE1, objE_obj, Option.bind_some, cut1, cut3, cut4, nil_ptr, fa_ptr, g_lt, g_eq, g_sne, g_seq, new_n, box_n, List.getElem?_cons_zero, List.getElem?_cons_succ, ex0, ex1, Sh.size, cells_int, aok_int, cells_bool, aok_bool, cells_str, aok_str, cells_lst, aok_lst, cells_ptr, aok_ptr, cells_arr, aok_arr, cells_fn, aok_fn, cells_mref, aok_mref, cells_nilp, aok_nilp, cells_agg, shOk_n, shOk_s, lenA_lst, List.length_cons, List.length_nil, if_true, putAt, List.take_succ_cons, List.take_zero, List.drop_succ_cons, List.drop_zero, List.cons_append, List.nil_append, List.append_nil, Nat.zero_add, Nat.reduceAdd, Nat.reduceLeDiff, Nat.le_refl, List.drop_nil, List.take_nil, List.length_append, List.length_set]; first | done | rfl) | rfl)); try dsimp only)
        rw [ifA_dec, if_neg (by simp)]
        repeat ((with_reducible (first | apply bs | apply bsy)); (focus (first | (simp (disch := (first | assumption | omega | (simp only [List.length_append, List.length_set, List.length_cons, List.length_nil]; first | done | omega))) only [List.all_cons, List.all_nil, Bool.and_true, Bool.and_self, beq_self_eq_true, resv1, List.length_map, ld_v3, ld_v1, binA_eql, binA_neq, binA_lss, binA_leq, binA_gtr, binA_geq, loadA_one, un_not, ld_ptr, st_ptr, putE1, objE_obj, Option.bind_some, cut1, cut3, cut4, nil_ptr, fa_ptr, g_lt, g_eq, g_sne, g_seq, new_n, box_n, List.getElem?_cons_zero, List.getElem?_cons_succ, ex0, ex1, Sh.size, cells_int, aok_int, cells_bool, aok_bool, cells_str, aok_str, cells_lst, aok_lst, cells_ptr, aok_ptr, cells_arr, aok_arr, cells_fn, aok_fn, cells_mref, aok_mref, cells_nilp, aok_nilp, cells_agg, shOk_n, shOk_s, lenA_lst, List.length_cons, List.length_nil, if_true, putAt, List.take_succ_cons, List.take_zero, List.drop_succ_cons, List.drop_zero, List.cons_append, List.nil_append, List.append_nil, Nat.zero_add, Nat.reduceAdd, Nat.reduceLeDiff, Nat.le_refl, List.drop_nil, List.take_nil, List.length_append, List.length_set, e20, ln]; first | done | rfl) | rfl)); try dsimp only)
        rw [ifA_dec, if_neg (by simp), i_add1 (by omega), Option.bind_some]
        exact ih (i + 1) m2 F2 l x T (by omega) ⟨k1, n1, n2, h.kn⟩ (by omega)
theorem nodeV_at {l : List ND} {i : Nat} (hi : i < l.length) : nodeV l i = (.agg [.int .i64 l[i].var, kidsA l[i], .int .i64 l[i].leaf], 0) := by
  rw [nodeV, if_pos (by omega), Int.toNat_natCast, List.getD_eq_getElem?_getD, List.getElem?_eq_getElem hi, Option.getD_some]; rfl
theorem nodeV_out {l : List ND} {i : Int} (hi : ¬ (0 ≤ i ∧ i < l.length)) : nodeV l i = (.agg [.int .i64 0, .lst none true .full [], .int .i64 0], 1) := by
  rw [nodeV, if_neg hi]
theorem W30 {arms : AV} {s : Nat} {F : List Nat} {l : List ND} {x : AV} {T : List Nat} : ∀ (j i : Nat) (m : Mem), i + j = l.length → Inv3 m s F arms l x T → l.length ≤ 60 →
    ∃ m', L3_30 (.ptr s 0) x x (.int .i64 l.length) (.int .i64 i) m (K3_30 (finK cfg.P f3.results.toList)) = some (.bool true, m') := by
  intro j
  induction j with
  | zero =>
    intro i m hi h hl
    have hz : ∀ (m : Mem) k, m.get k = some (Ent.obj true [.int .i64 0, .lst none true .full [], .int .i64 0]) → storeA (some 3) m (.ptr k 0) (.agg [.int .i64 0, .lst none true .full [], .int .i64 0]) = some (m.set k (some (Ent.obj true [.int .i64 0, .lst none true .full [], .int .i64 0]))) := fun m k hk => st_agg3 hk rfl
    obtain ⟨m2, e1, f1⟩ := A21 h.st (by omega) h.kn l.length
    rw [nodeV_out (by omega)] at e1
    have h3 := (h.app f1).app ((Fr.app m2 (some (Ent.obj true [.int .i64 0, .lst none true .full [], .int .i64 0])) []).set (k := m2.length) (some (Ent.obj true [.int .i64 0, .lst none true .full [], .int .i64 0])) (.inr (Nat.le_refl _)))
    obtain ⟨m4, e2, f2⟩ := A21 h3.st (by omega) h.kn (-1)
    rw [nodeV_out (by omega)] at e2
    have s1 := hz (m2 ++ [some (Ent.obj true [.int .i64 0, .lst none true .full [], .int .i64 0])]) m2.length (by simp (disch := (first | assumption | omega | (simp only [List.length_append, List.length_set, List.length_cons, List.length_nil]; first | done | omega))) only [resv1, g_lt, g_eq, g_sne, g_seq]; first | done | rfl)
    have s2 := hz (m4 ++ [some (Ent.obj true [.int .i64 0, .lst none true .full [], .int .i64 0])]) m4.length (by simp (disch := (first | assumption | omega | (simp only [List.length_append, List.length_set, List.length_cons, List.length_nil]; first | done | omega))) only [resv1, g_lt, g_eq, g_sne, g_seq]; first | done | rfl)
    have ln := nr_len h.nr
    rw [L3_30_eq, n_lss, Option.bind_some, ifA_dec, if_neg (by omega), K3_30_x2]
    repeat ((with_reducible (first | apply bs | apply bsy)); (focus (first | (simp (disch := (first | assumption | omega | (simp only [List.length_append, List.length_set, List.length_cons, List.length_nil]; first | done | omega))) only [List.all_cons, List.all_nil, Bool.and_true, Bool.and_self, beq_self_eq_true, resv1, List.length_map, ld_v3, ld_v1, binA_eql, binA_neq, binA_lss, binA_leq, binA_gtr, binA_geq, loadA_one, un_not, ld_ptr, st_ptr, putE1, objE_obj, Option.bind_some, cut1, cut3, cut4, nil_ptr, fa_ptr, g_lt, g_eq, g_sne, g_seq, new_n, box_n, List.getElem?_cons_zero, List.getElem?_cons_succ, ex0, ex1, Sh.size, cells_int, aok_int, cells_bool, aok_bool, cells_str, aok_str, cells_lst, aok_lst, cells_ptr, aok_ptr, cells_arr, aok_arr, cells_fn, aok_fn, cells_mref, aok_mref, cells_nilp, aok_nilp, cells_agg, shOk_n, shOk_s, lenA_lst, List.length_cons, List.length_nil, if_true, putAt, List.take_succ_cons, List.take_zero, List.drop_succ_cons, List.drop_zero, List.cons_append, List.nil_append, List.append_nil, Nat.zero_add, Nat.reduceAdd, Nat.reduceLeDiff, Nat.le_refl, List.drop_nil, List.take_nil, List.length_append, List.length_set, ln, e1, s1, e2, s2]; first | done | rfl) | rfl)); try dsimp only)
    rw [ifA_dec, if_pos (by simp)]
    repeat ((with_reducible (first | apply bs | apply bsy)); (focus (first | (simp (disch := (first | assumption | omega | (simp only [List.length_append, List.length_set, List.length_cons, List.length_nil]; first | done | omega))) only [List.all_cons, List.all_nil, Bool.and_true, Bool.and_self, beq_self_eq_true, resv1, List.length_map, ld_v3, ld_v1, binA_eql, binA_neq, binA_lss, binA_leq, binA_gtr, binA_geq, loadA_one, un_not, ld_ptr, st_ptr, putE1, objE_obj, Option.bind_some, cut1, cut3, cut4, nil_ptr, fa_ptr, g_lt, g_eq, g_sne, g_seq, new_n, box_n, List.getElem?_cons_zero, List.getElem?_cons_succ, ex0, ex1, Sh.size, cells_int, aok_int, cells_bool, aok_bool, cells_str, aok_str, cells_lst, aok_lst, cells_ptr, aok_ptr, cells_arr, aok_arr, cells_fn, aok_fn, cells_mref, aok_mref, cells_nilp, aok_nilp, cells_agg, shOk_n, shOk_s, lenA_lst, List.length_cons, List.length_nil, if_true, putAt, List.take_succ_cons, List.take_zero, List.drop_succ_cons, List.drop_zero, List.cons_append, List.nil_append, List.append_nil, Nat.zero_add, Nat.reduceAdd, Nat.reduceLeDiff, Nat.le_refl, List.drop_nil, List.take_nil, List.length_append, List.length_set]; first | done | rfl) | rfl)); try dsimp only)
    rw [ifA_dec, if_pos (by simp)]
    repeat ((with_reducible (first | apply bs | apply bsy)); (focus (first | (simp (disch := (first | assumption | omega | (simp only [List.length_append, List.length_set, List.length_cons, List.length_nil]; first | done | omega))) only [List.all_cons, List.all_nil, Bool.and_true, Bool.and_self, beq_self_eq_true, resv1, List.length_map, ld_v3, ld_v1, binA_eql, binA_neq, binA_lss, binA_leq, binA_gtr, binA_geq, loadA_one, un_not, ld_ptr, st_ptr, putE1, objE_obj, Option.bind_some, cut1, cut3, cut4, nil_ptr, fa_ptr, g_lt, g_eq, g_sne, g_seq, new_n, box_n, List.getElem?_cons_zero, List.getElem?_cons_succ, ex0, ex1, Sh.size, cells_int, aok_int, cells_bool, aok_bool, cells_str, aok_str, cells_lst, aok_lst, cells_ptr, aok_ptr, cells_arr, aok_arr, cells_fn, aok_fn, cells_mref, aok_mref, cells_nilp, aok_nilp, cells_agg, shOk_n, shOk_s, lenA_lst, List.length_cons, List.length_nil, if_true, putAt, List.take_succ_cons, List.take_zero, List.drop_succ_cons, List.drop_zero, List.cons_append, List.nil_append, List.append_nil, Nat.zero_add, Nat.reduceAdd, Nat.reduceLeDiff, Nat.le_refl, List.drop_nil, List.take_nil, List.length_append, List.length_set, pc13]; first | done | rfl) | rfl)); try dsimp only)
    exact ⟨_, rfl⟩
  | succ j ih =>
    intro i m hi h hl
    have hil : i < l.length := by omega
    have hix := nr_idx h.nr hil
    have b1 := box_av l[i] m (get_len m)
    have h4 := h.app (Fr.app m (some (Ent.obj true [.int .i64 l[i].var, kidsA l[i], .int .i64 l[i].leaf])) [])
    obtain ⟨m5, e1, f1⟩ := A21 h4.st (by omega) h.kn i
    rw [nodeV_at hil] at e1
    have b2 := box_av l[i] m5 (get_len m5)
    have h6 := (h4.app f1).app (Fr.app m5 (some (Ent.obj true [.int .i64 l[i].var, kidsA l[i], .int .i64 l[i].leaf])) [])
    have g1 : m5.get m.length = some (Ent.obj true [.int .i64 l[i].var, kidsA l[i], .int .i64 l[i].leaf]) := by rw [f1.get _ (by simp) (by simp)]; exact (by simp (disch := (first | assumption | omega | (simp only [List.length_append, List.length_set, List.length_cons, List.length_nil]; first | done | omega))) only [resv1, g_lt, g_eq, g_sne, g_seq]; first | done | rfl)
    have l5 := get_lt g1
    have hio := h.st.ok _ (List.getElem_mem hil)
    have hbs : buildSliceA (some 3) [.agg [.int .i64 l[i].var, kidsA l[i], .int .i64 l[i].leaf]] = some (NL false .full [l[i]]) := bsl_av l[i]
    have p22 := fun m => pc22 false false .full .full [l[i]] [l[i]] (by simp [hio]) (by simp [hio]) (by simp) none m
    obtain ⟨m', nx⟩ := ih (i + 1) _ (by omega) h6 hl
    rw [L3_30_eq, n_lss, Option.bind_some, ifA_dec, if_pos hil]
    repeat ((with_reducible (first | apply bs | apply bsy)); (focus (first | (simp (disch := (first | assumption | omega | (simp only [List.length_append, List.length_set, List.length_cons, List.length_nil]; first | done | omega))) only [List.all_cons, List.all_nil, Bool.and_true, Bool.and_self, beq_self_eq_true, resv1, List.length_map, ld_v3, ld_v1, binA_eql, binA_neq, binA_lss, binA_leq, binA_gtr, binA_geq, loadA_one, un_not, ld_ptr, st_ptr, putE1, objE_obj, Option.bind_some, cut1, cut3, cut4, nil_ptr, fa_ptr, g_lt, g_eq, g_sne, g_seq, new_n, box_n, List.getElem?_cons_zero, List.getElem?_cons_succ, ex0, ex1, Sh.size, cells_int, aok_int, cells_bool, aok_bool, cells_str, aok_str, cells_lst, aok_lst, cells_ptr, aok_ptr, cells_arr, aok_arr, cells_fn, aok_fn, cells_mref, aok_mref, cells_nilp, aok_nilp, cells_agg, shOk_n, shOk_s, lenA_lst, List.length_cons, List.length_nil, if_true, putAt, List.take_succ_cons, List.take_zero, List.drop_succ_cons, List.drop_zero, List.cons_append, List.nil_append, List.append_nil, Nat.zero_add, Nat.reduceAdd, Nat.reduceLeDiff, Nat.le_refl, List.drop_nil, List.take_nil, List.length_append, List.length_set, hix, b1, e1, b2]; first | done | rfl) | rfl)); try dsimp only)
    rw [ifA_dec, if_neg (by simp)]
    repeat ((with_reducible (first | apply bs | apply bsy)); (focus (first | (simp (disch := (first | assumption | omega | (simp only [List.length_append, List.length_set, List.length_cons, List.length_nil]; first | done | omega))) only [List.all_cons, List.all_nil, Bool.and_true, Bool.and_self, beq_self_eq_true, resv1, List.length_map, ld_v3, ld_v1, binA_eql, binA_neq, binA_lss, binA_leq, binA_gtr, binA_geq, loadA_one, un_not, ld_ptr, st_ptr, putE1, objE_obj, Option.bind_some, cut1, cut3, cut4, nil_ptr, fa_ptr, g_lt, g_eq, g_sne, g_seq, new_n, box_n, List.getElem?_cons_zero, List.getElem?_cons_succ, ex0, ex1, Sh.size, cells_int, aok_int, cells_bool, aok_bool, cells_str, aok_str, cells_lst, aok_lst, cells_ptr, aok_ptr, cells_arr, aok_arr, cells_fn, aok_fn, cells_mref, aok_mref, cells_nilp, aok_nilp, cells_agg, shOk_n, shOk_s, lenA_lst, List.length_cons, List.length_nil, if_true, putAt, List.take_succ_cons, List.take_zero, List.drop_succ_cons, List.drop_zero, List.cons_append, List.nil_append, List.append_nil, Nat.zero_add, Nat.reduceAdd, Nat.reduceLeDiff, Nat.le_refl, List.drop_nil, List.take_nil, List.length_append, List.length_set, g1, hbs, p22]; first | done | rfl) | rfl)); try dsimp only)
    rw [decide_eq_true (by trivial), Bool.not_true, ifA_f, i_add1 (by omega), Option.bind_some]
    exact ⟨m', nx⟩
theorem DiagramSteps_law (z zl : Bool) (ar : List Int) (sts : List SP) (hz : ∀ x ∈ sts, x.kz = true → x.kids = []) :
    ∃ m', AC cfg 3 [IA z .no ar, SL zl .no sts] [] = some (.bool true, m') := by
  obtain ⟨o', r, e11, hg, hr17, ho'⟩ := V11 z .no ar
  have p11 : ∀ m, pcall (AP cfg) none m 11 [IA z .no ar] = some (IA false o' r, m) := fun m => by
    rw [pcall1 (fz_IA z .no ar), show (Own.no).fr = Own.no from rfl, e11]; rfl
  have hmin : maxA false (.int .i64 sts.length) (.int .i64 60) = some (.int .i64 (min sts.length 60 : Nat)) := by
    simp only [maxA, if_true, Bool.false_eq_true, if_false]
    congr 2
    split <;> omega
  have hsl : sliceT (some 3) (SL zl .no sts) none (some (.int .i64 (min sts.length 60 : Nat))) none = some (SL zl .no (sts.take (min sts.length 60))) := by
    have hle : min sts.length 60 ≤ sts.length := by omega
    simp [sliceT, sliceA, boundA, hle, List.map_take]
  have hz' : ∀ x ∈ sts.take (min sts.length 60), x.kz = true → x.kids = [] := fun x hx => hz x (List.take_subset _ _ hx)
  have hl' : (sts.take (min sts.length 60)).length ≤ 60 := by rw [List.length_take]; omega
  generalize sts.take (min sts.length 60) = st at hsl hz' hl'
  rw [T3]
  repeat ((with_reducible (first | apply bs | apply bsy)); (focus (first | (simp (disch := (first | assumption | omega | (simp only [List.length_append, List.length_set, List.length_cons, List.length_nil]; first | done | omega))) only [List.all_cons, List.all_nil, Bool.and_true, Bool.and_self, beq_self_eq_true, resv1, List.length_map, ld_v3, ld_v1, binA_eql, binA_neq, binA_lss, binA_leq, binA_gtr, binA_geq, loadA_one, un_not, ld_ptr, st_ptr, putE1, objE_obj, Option.bind_some, cut1, cut3, cut4, nil_ptr, fa_ptr, g_lt, g_eq, g_sne, g_seq, new_n, box_n, List.getElem?_cons_zero, List.getElem?_cons_succ, ex0, ex1, Sh.size, cells_int, aok_int, cells_bool, aok_bool, cells_str, aok_str, cells_lst, aok_lst, cells_ptr, aok_ptr, cells_arr, aok_arr, cells_fn, aok_fn, cells_mref, aok_mref, cells_nilp, aok_nilp, cells_agg, shOk_n, shOk_s, lenA_lst, List.length_cons, List.length_nil, if_true, putAt, List.take_succ_cons, List.take_zero, List.drop_succ_cons, List.drop_zero, List.cons_append, List.nil_append, List.append_nil, Nat.zero_add, Nat.reduceAdd, Nat.reduceLeDiff, Nat.le_refl, List.drop_nil, List.take_nil, List.length_append, List.length_set, p11, len_SL, hmin, hsl, pc12]; first | done | rfl) | rfl)); try dsimp only)
  rw [ifA_dec]
  by_cases he : armsE r = 0
  · rw [if_neg (by simpa using he)]
    obtain ⟨m1, s, F, zs, os, e14, h1, f1, hF⟩ := A14 [] false o' r (fun h => by cases h) he
    repeat ((with_reducible (first | apply bs | apply bsy)); (focus (first | (simp (disch := (first | assumption | omega | (simp only [List.length_append, List.length_set, List.length_cons, List.length_nil]; first | done | omega))) only [List.all_cons, List.all_nil, Bool.and_true, Bool.and_self, beq_self_eq_true, resv1, List.length_map, ld_v3, ld_v1, binA_eql, binA_neq, binA_lss, binA_leq, binA_gtr, binA_geq, loadA_one, un_not, ld_ptr, st_ptr, putE1, objE_obj, Option.bind_some, cut1, cut3, cut4, nil_ptr, fa_ptr, g_lt, g_eq, g_sne, g_seq, new_n, box_n, List.getElem?_cons_zero, List.getElem?_cons_succ, ex0, ex1, Sh.size, cells_int, aok_int, cells_bool, aok_bool, cells_str, aok_str, cells_lst, aok_lst, cells_ptr, aok_ptr, cells_arr, aok_arr, cells_fn, aok_fn, cells_mref, aok_mref, cells_nilp, aok_nilp, cells_agg, shOk_n, shOk_s, lenA_lst, List.length_cons, List.length_nil, if_true, putAt, List.take_succ_cons, List.take_zero, List.drop_succ_cons, List.drop_zero, List.cons_append, List.nil_append, List.append_nil, Nat.zero_add, Nat.reduceAdd, Nat.reduceLeDiff, Nat.le_refl, List.drop_nil, List.take_nil, List.length_append, List.length_set, e14]; first | done | rfl) | rfl)); try dsimp only)
    rw [ifA_dec, if_neg (by simp)]
    repeat ((with_reducible (first | apply bs | apply bsy)); (focus (first | (simp (disch := (first | assumption | omega | (simp only [List.length_append, List.length_set, List.length_cons, List.length_nil]; first | done | omega))) only [List.all_cons, List.all_nil, Bool.and_true, Bool.and_self, beq_self_eq_true, resv1, List.length_map, ld_v3, ld_v1, binA_eql, binA_neq, binA_lss, binA_leq, binA_gtr, binA_geq, loadA_one, un_not, ld_ptr, st_ptr, putE1, objE_obj, Option.bind_some, cut1, cut3, cut4, nil_ptr, fa_ptr, g_lt, g_eq, g_sne, g_seq, new_n, box_n, List.getElem?_cons_zero, List.getElem?_cons_succ, ex0, ex1, Sh.size, cells_int, aok_int, cells_bool, aok_bool, cells_str, aok_str, cells_lst, aok_lst, cells_ptr, aok_ptr, cells_arr, aok_arr, cells_fn, aok_fn, cells_mref, aok_mref, cells_nilp, aok_nilp, cells_agg, shOk_n, shOk_s, lenA_lst, List.length_cons, List.length_nil, if_true, putAt, List.take_succ_cons, List.take_zero, List.drop_succ_cons, List.drop_zero, List.cons_append, List.nil_append, List.append_nil, Nat.zero_add, Nat.reduceAdd, Nat.reduceLeDiff, Nat.le_refl, List.drop_nil, List.take_nil, List.length_append, List.length_set, len_SL]; first | done | rfl) | rfl)); try dsimp only)
    refine W3 he st hz' hl' (fun m F x l T h hl => ?_) st.length 0 m1 F [] (.lst none true .full []) [] (by omega) ⟨h1, .none, by simp, fun _ h => by cases h⟩ (by simp)
    obtain ⟨m', e⟩ := W30 l.length 0 m (by omega) h hl
    refine ⟨m', ?_⟩
    rw [K3_10_x0, nr_len h.nr, Option.bind_some]
    exact e
  · rw [if_pos he]
    repeat ((with_reducible (first | apply bs | apply bsy)); (focus (first | (simp (disch := (first | assumption | omega | (simp only [List.length_append, List.length_set, List.length_cons, List.length_nil]; first | done | omega))) only [List.all_cons, List.all_nil, Bool.and_true, Bool.and_self, beq_self_eq_true, resv1, List.length_map, ld_v3, ld_v1, binA_eql, binA_neq, binA_lss, binA_leq, binA_gtr, binA_geq, loadA_one, un_not, ld_ptr, st_ptr, putE1, objE_obj, Option.bind_some, cut1, cut3, cut4, nil_ptr, fa_ptr, g_lt, g_eq, g_sne, g_seq, new_n, box_n, List.getElem?_cons_zero, List.getElem?_cons_succ, ex0, ex1, Sh.size, cells_int, aok_int, cells_bool, aok_bool, cells_str, aok_str, cells_lst, aok_lst, cells_ptr, aok_ptr, cells_arr, aok_arr, cells_fn, aok_fn, cells_mref, aok_mref, cells_nilp, aok_nilp, cells_agg, shOk_n, shOk_s, lenA_lst, List.length_cons, List.length_nil, if_true, putAt, List.take_succ_cons, List.take_zero, List.drop_succ_cons, List.drop_zero, List.cons_append, List.nil_append, List.append_nil, Nat.zero_add, Nat.reduceAdd, Nat.reduceLeDiff, Nat.le_refl, List.drop_nil, List.take_nil, List.length_append, List.length_set, pc13]; first | done | rfl) | rfl)); try dsimp only)
    exact ⟨_, rfl⟩
end Go.Ab

/- The deferred closures of the diagram seat: where nothing has panicked they do nothing. -/
set_option linter.unusedVariables false
set_option linter.unusedSimpArgs false
set_option linter.unusedSectionVars false
namespace Go.Ab
open Go.Proofs Go.RowKit

theorem idle72 (caps : Array Value) (w : World) : CallsD Tryd.prog 72 caps .returning w fun e u w' => (∃ v, e = .returned v) ∧ u = .returning ∧ w' = w := by
  refine callsD_of_wpS Tryd.func72 rfl fun c₀ cs hu => ?_
  have hs : 45 ≤ (caps ++ Array.replicate (Tryd.f72.ntmps - caps.size) undef).size := by
    rw [Tryd.ntmps72, Array.size_append, Array.size_replicate]; omega
  generalize caps ++ Array.replicate (Tryd.f72.ntmps - caps.size) undef = T at hs
  apply wpS_seq
  apply wpS_region
  simp [wpOpsS, go_sem, recoverD, hu, Exit.thenS, Act.put, Act.eval, show 9 < T.size by omega, show 4 < T.size by omega]
  apply wpS_seq
  apply wpS_seq
  apply wpS_region
  simp [wpOpsS, go_sem, recoverD, hu, Exit.thenS, Act.put, Act.eval, show 9 < T.size by omega, show 4 < T.size by omega, show 10 < T.size by omega, show 11 < T.size by omega]
  refine wpS_cond (t := true) (by simp [Act.eval, show 11 < T.size by omega]) ?_
  simp only [if_true]
  refine wpS_of_wp (wp_ret ?_)
  cases c₀
  simp_all [bodyPostS, results, Tryd.results72, Exit.thenS]
theorem idle84 (caps : Array Value) (w : World) : CallsD Tryd.prog 84 caps .returning w fun e u w' => (∃ v, e = .returned v) ∧ u = .returning ∧ w' = w := by
  refine callsD_of_wpS Tryd.func84 rfl fun c₀ cs hu => ?_
  have hs : 3 ≤ (caps ++ Array.replicate (Tryd.f84.ntmps - caps.size) undef).size := by
    rw [Tryd.ntmps84, Array.size_append, Array.size_replicate]; omega
  generalize caps ++ Array.replicate (Tryd.f84.ntmps - caps.size) undef = T at hs
  apply wpS_seq
  apply wpS_region
  simp [wpOpsS, go_sem, recoverD, hu, Exit.thenS, Act.put, Act.eval, show 1 < T.size by omega, show 2 < T.size by omega]
  refine wpS_cond (t := false) (by simp [Act.eval, show 2 < T.size by omega]) ?_
  simp only [Bool.false_eq_true, if_false]
  refine wpS_of_wp (wp_skip ?_)
  cases c₀
  simp_all [bodyPostS, results, Tryd.results84]
theorem benD_of {g : Nat} {fn : Func} (hfn : Tryd.prog.funcs[g]? = some fn) (hname : (fn.name == "runtime.NumGoroutine") = false) (hbody : fn.body.isSome) (caps : Array Value)
    (h : ∀ w, CallsD Tryd.prog g caps .returning w fun e u w' => (∃ v, e = .returned v) ∧ u = .returning ∧ w' = w) : BenD Tryd.prog { target := .fn (.func g) caps, args := #[] } := by
  refine ⟨.func g, caps, g, caps, rfl, fun w => ⟨?_, h w⟩⟩
  have hb : fn.body.isNone = false := by cases hb : fn.body <;> simp_all
  simp only [invoke, callFunc, hfn, hname, hb, Sem.run_bind, Sem.run_pure, run_program, Result.andThen_ok, Bool.false_eq_true, if_false, Array.empty_append]
theorem ben72 (caps : Array Value) : BenD Tryd.prog { target := .fn (.func 72) caps, args := #[] } := benD_of Tryd.func72 (by kernel_rfl) (by kernel_rfl) caps (idle72 caps)
theorem ben84 (caps : Array Value) : BenD Tryd.prog { target := .fn (.func 84) caps, args := #[] } := benD_of Tryd.func84 (by kernel_rfl) (by kernel_rfl) caps (idle84 caps)
end Go.Ab

/- Data that can be read, as values of the interpreter: any type of whole numbers, truth values, texts, rows of these, and flat structs. -/
set_option linter.unusedVariables false
set_option linter.unusedSimpArgs false
set_option maxRecDepth 100000
set_option linter.unusedSectionVars false
namespace Go.Ab
open Go.RowKit

def gN : G := ⟨fun _ _ => False, fun _ => False, fun _ => none, fun _ _ => none⟩
def atomT (P : Program) (t : Nat) : Bool := match P.underlying t with
  | some (.int _) | some .bool | some .string | some (.slice _) => true
  | _ => false
def shE (P : Program) (t : Nat) : Sh := match P.underlying t with
  | some (.struct fs) => some fs.size
  | _ => none
/-- What stands in a variable of a type, by depth. -/
def Reads (P : Program) : Nat → Nat → AV → Prop
  | 0, _, _ => False
  | n + 1, t, v => match P.underlying t with
    | some (.int k) => ∃ i, v = .int k i ∧ (Lit.int k i).wf = true
    | some .bool => ∃ b, v = .bool b
    | some .string => ∃ s, v = .str s ∧ s.size ≤ maxLen
    | some (.slice e) => ∃ z es, v = .lst (shE P e) z .no es ∧ (z = true → es = []) ∧ ∀ x ∈ es, Reads P n e x
    | some (.struct fs) => ∃ cs, v = .agg cs ∧ cs.length = fs.size ∧ ∀ i f, fs[i]? = some f → Reads P n f.type (cs.getD i .any)
    | _ => False
def fieldsOk (P : Program) (ok : Nat → Bool) : Nat → List Field → Bool
  | _, [] => true
  | i, f :: l => f.offset == i && P.cellsOf f.type == 1 && atomT P f.type && ok f.type && fieldsOk P ok (i + 1) l
def tyOk (P : Program) : Nat → Nat → Bool
  | 0, _ => false
  | n + 1, t => match P.underlying t with
    | some (.int _) | some .bool | some .string => P.cellsOf t == 1
    | some (.slice e) => P.cellsOf t == 1 && tyOk P n e
    | some (.struct fs) => P.cellsOf t == fs.size && decide (0 < fs.size) && fieldsOk P (tyOk P n) 0 fs.toList
    | _ => false
theorem fieldsOk_get {P : Program} {ok : Nat → Bool} : ∀ {l : List Field} {i0 : Nat}, fieldsOk P ok i0 l = true → ∀ i f, l[i]? = some f → f.offset = i0 + i ∧ P.cellsOf f.type = 1 ∧ atomT P f.type = true ∧ ok f.type = true
  | [], i0, h, i, f, hf => by simp at hf
  | g :: l, i0, h, i, f, hf => by
    simp only [fieldsOk, Bool.and_eq_true, beq_iff_eq] at h
    obtain ⟨⟨⟨⟨h1, h2⟩, h3⟩, h4⟩, h5⟩ := h
    cases i with
    | zero =>
      simp at hf; subst hf
      exact ⟨h1, h2, h3, h4⟩
    | succ i =>
      simp at hf
      obtain ⟨a, b⟩ := fieldsOk_get h5 i f hf
      exact ⟨by omega, b⟩
theorem flatS {s : Nat} (hs : 0 < s) : ∀ {es : List AV}, (∀ e ∈ es, e.cells.length = s) → (flat es).length = es.length * s ∧ ∀ j, j < es.length * s → (flat es).getD j .any = (es.getD (j / s) .any).cells.getD (j % s) .any
  | [], h => ⟨by simp [flat], fun j hj => by simp at hj⟩
  | e :: es, h => by
    have h0 := h e List.mem_cons_self
    obtain ⟨h1, h2⟩ := flatS hs (fun x hx => h x (List.mem_cons_of_mem _ hx))
    have e1 : flat (e :: es) = e.cells ++ flat es := rfl
    have e2 : (e :: es).length * s = es.length * s + s := by rw [List.length_cons, Nat.add_mul, Nat.one_mul]
    refine ⟨by rw [e1, List.length_append, h0, h1, e2]; omega, fun j hj => ?_⟩
    rw [e1, List.getD_eq_getElem?_getD]
    by_cases hj2 : j < s
    · rw [List.getElem?_append_left (by omega), Nat.div_eq_of_lt hj2, Nat.mod_eq_of_lt hj2]
      show _ = e.cells.getD j .any
      rw [List.getD_eq_getElem?_getD]
    · rw [List.getElem?_append_right (by omega), h0, ← List.getD_eq_getElem?_getD, h2 (j - s) (by omega)]
      have e3 : j / s = (j - s) / s + 1 := by
        have := Nat.div_eq_sub_div hs (by omega : s ≤ j)
        omega
      have e4 : j % s = (j - s) % s := Nat.mod_eq_sub_mod (by omega)
      rw [e3, e4, List.getD_cons_succ]
theorem reads_ok {P : Program} : ∀ (n t : Nat) (v : AV), tyOk P n t = true → Reads P n t v → shOk (shE P t) v = true ∧ pl v = true ∧ v.cells.length = P.cellsOf t ∧ 0 < P.cellsOf t ∧ (shE P t).size = P.cellsOf t ∧ (atomT P t = true → atomOk v = true)
  | 0, t, v, ht, _ => by simp [tyOk] at ht
  | n + 1, t, v, ht, h => by
    unfold Reads at h
    unfold tyOk at ht
    unfold shE atomT
    cases hu : P.underlying t with
    | none => rw [hu] at h; exact h.elim
    | some ty =>
      rw [hu] at h ht
      cases ty with
      | int k =>
        obtain ⟨i, rfl, _⟩ := h
        have hc : P.cellsOf t = 1 := by simpa using ht
        exact ⟨rfl, rfl, hc.symm, by omega, hc.symm, fun _ => rfl⟩
      | bool =>
        obtain ⟨i, rfl⟩ := h
        have hc : P.cellsOf t = 1 := by simpa using ht
        exact ⟨rfl, rfl, hc.symm, by omega, hc.symm, fun _ => rfl⟩
      | string =>
        obtain ⟨i, rfl, _⟩ := h
        have hc : P.cellsOf t = 1 := by simpa using ht
        exact ⟨rfl, rfl, hc.symm, by omega, hc.symm, fun _ => rfl⟩
      | slice e =>
        obtain ⟨z, es, rfl, _⟩ := h
        have hc : P.cellsOf t = 1 := by
          simp only [Bool.and_eq_true, beq_iff_eq] at ht
          exact ht.1
        exact ⟨rfl, rfl, hc.symm, by omega, hc.symm, fun _ => rfl⟩
      | struct fs =>
        obtain ⟨cs, rfl, hl, hf⟩ := h
        simp only [Bool.and_eq_true, beq_iff_eq, decide_eq_true_eq] at ht
        obtain ⟨⟨h1, h2⟩, h3⟩ := ht
        have hall : ∀ c ∈ cs, atomOk c = true ∧ pl c = true := by
          intro c hc
          obtain ⟨i, hi, rfl⟩ := List.mem_iff_getElem.1 hc
          have hfi : fs[i]? = some (fs[i]'(by omega)) := Array.getElem?_eq_getElem (by omega)
          obtain ⟨_, b, c2, d⟩ := fieldsOk_get h3 i _ (by rw [Array.getElem?_toList]; exact hfi)
          have r := hf i _ hfi
          rw [List.getD_eq_getElem?_getD, List.getElem?_eq_getElem hi] at r
          have := reads_ok n _ _ d r
          exact ⟨this.2.2.2.2.2 c2, this.2.1⟩
        have hpl : ∀ l : List AV, (∀ c ∈ l, pl c = true) → plL l = true := by
          intro l
          induction l with
          | nil => intro _; rfl
          | cons a l ih =>
            intro h
            show (pl a && plL l) = true
            rw [h a List.mem_cons_self, ih (fun c hc => h c (List.mem_cons_of_mem _ hc))]; rfl
        refine ⟨?_, hpl cs (fun c hc => (hall c hc).2), by show cs.length = _; omega, by omega, h1.symm, fun h => by cases h⟩
        show (cs.length == fs.size && cs.all atomOk) = true
        rw [Bool.and_eq_true]
        exact ⟨by simp [hl], List.all_eq_true.2 fun c hc => (hall c hc).1⟩
      | _ => exact h.elim
section
variable {P : Program} {H : Type} {enc : TypeId × Value → H} {W : World}
theorem rd_cells {w : World} {a : Addr} {n : Nat} {cs : List Value} (h : w.cells? 0 a n = some cs) : cs.length = n ∧ ∀ j, j < n → w.cell? (a.add j) = cs[j]? := by
  unfold World.cells? at h
  rw [if_pos (Nat.zero_le _)] at h
  refine ⟨by simpa using mapM_some_length h, fun j hj => mapM_some_get h j j (by simp [hj])⟩
theorem rd_add {a : Addr} (h : a.spot = none) (j : Nat) : a.add j = ⟨a.block, a.off + j, none⟩ := by
  obtain ⟨b, o, s⟩ := a
  subst h
  exact Addr_add b o j
/-- Whatever can be read is a value of the interpreter. -/
theorem reads : ∀ (n t : Nat), tyOk P n t = true → ∀ {fuel : Nat} {cs : List Value} {x : DataW H × List MemPlace}, DataW.trod enc P W 0 (fun _ => true) true fuel t cs = some x → ∃ v : AV, Reads P n t v ∧ cs.length = P.cellsOf t ∧ ∀ j, j < P.cellsOf t → V W gN (v.cells.getD j .any) (cs.getD j undef)
  | 0, t, ht, _, _, _, _ => by simp [tyOk] at ht
  | n + 1, t, ht, fuel, cs, x, h => by
    have ht0 := ht
    unfold tyOk at ht
    unfold Reads
    cases hu : P.underlying t with
    | none => rw [hu] at ht; cases ht
    | some ty =>
      rw [hu] at ht
      cases ty with
      | int k =>
        have hc : P.cellsOf t = 1 := by simpa using ht
        obtain ⟨i, rfl, _, hw⟩ := DataW.trod_int hu h
        refine ⟨.int k i, ⟨i, rfl, hw⟩, hc.symm, fun j hj => ?_⟩
        obtain rfl : j = 0 := by omega
        exact .int _ _
      | bool =>
        have hc : P.cellsOf t = 1 := by simpa using ht
        obtain ⟨i, rfl, _⟩ := DataW.trod_bool hu h
        refine ⟨.bool i, ⟨i, rfl⟩, hc.symm, fun j hj => ?_⟩
        obtain rfl : j = 0 := by omega
        exact .bool _
      | string =>
        have hc : P.cellsOf t = 1 := by simpa using ht
        obtain ⟨i, rfl, _, hw⟩ := DataW.trod_string hu h
        refine ⟨.str i, ⟨i, rfl, hw⟩, hc.symm, fun j hj => ?_⟩
        obtain rfl : j = 0 := by omega
        exact .str _
      | slice e =>
        simp only [Bool.and_eq_true, beq_iff_eq] at ht
        obtain ⟨hc, hte⟩ := ht
        rcases DataW.trod_slice hu h with ⟨rfl, _⟩ | ⟨a, len, cap, elems, rest, m, _, rfl, _, _, hl, hm, he, hel, hre, _⟩
        · refine ⟨.lst (shE P e) true .no [], ⟨true, [], rfl, fun _ => rfl, fun x hx => by cases hx⟩, hc.symm, fun j hj => ?_⟩
          obtain rfl : j = 0 := by omega
          exact .nils _ .no (.inr rfl)
        · obtain ⟨hrl, hre⟩ := hre rfl
          have raw : ∀ i, i < cap → ∃ y, (W.cells? 0 (a.add (i * P.cellsOf e)) (P.cellsOf e)).bind (DataW.trod enc P W 0 (fun _ => true) true m e) = some y := by
            intro i hi
            by_cases hi2 : i < len
            · have h1 := hel i hi2
              rw [List.getElem?_eq_getElem (by omega)] at h1
              exact ⟨_, h1⟩
            · have h1 := hre (i - len) (by omega)
              rw [List.getElem?_eq_getElem (by omega), show len + (i - len) = i by omega] at h1
              exact ⟨_, h1⟩
          have at1 : ∀ i, i < cap → (i = 0 ∨ a.spot = none) → a.spot = none ∧ ∃ v : AV, Reads P n e v ∧ ∀ j, j < P.cellsOf e → ∃ u, W.cell? ⟨a.block, a.off + (i * P.cellsOf e + j), none⟩ = some u ∧ V W gN (v.cells.getD j .any) u := by
            intro i hi hs0
            obtain ⟨y, hy⟩ := raw i hi
            obtain ⟨cs, h1, h2⟩ := Option.bind_eq_some_iff.1 hy
            obtain ⟨v, hv, hlen, hV⟩ := reads n e hte h2
            have hpos := (reads_ok n e v hte hv).2.2.2.1
            have h3 := (rd_cells h1).2
            have hs : a.spot = none := by
              rcases hs0 with rfl | hs0
              · rw [Nat.zero_mul] at h3
                have h4 := h3 0 hpos
                rw [List.getElem?_eq_getElem (by omega)] at h4
                exact World.cell?_spot h4
              · exact hs0
            refine ⟨hs, v, hv, fun j hj => ?_⟩
            have h4 := h3 j hj
            rw [rd_add hs, Addr_add, Nat.add_assoc, List.getElem?_eq_getElem (by omega)] at h4
            refine ⟨_, h4, ?_⟩
            have := hV j hj
            rwa [List.getD_eq_getElem?_getD (l := cs), List.getElem?_eq_getElem (by omega)] at this
          have hsp : cap = 0 ∨ a.spot = none := by
            by_cases h0 : cap = 0
            · exact .inl h0
            · exact .inr (at1 0 (by omega) (.inl rfl)).1
          have cell : ∀ i, ∃ v : AV, i < cap → Reads P n e v ∧ ∀ j, j < P.cellsOf e → ∃ u, W.cell? ⟨a.block, a.off + (i * P.cellsOf e + j), none⟩ = some u ∧ V W gN (v.cells.getD j .any) u := by
            intro i
            by_cases hi : i < cap
            · obtain ⟨v, hv⟩ := (at1 i hi (.inr (hsp.resolve_left (by omega)))).2
              exact ⟨v, fun _ => hv⟩
            · exact ⟨.any, fun h => absurd h hi⟩
          obtain ⟨f, hf⟩ := Classical.axiomOfChoice cell
          have hlen : ((List.range len).map f).length = len := by simp
          have hmem : ∀ v ∈ (List.range len).map f, Reads P n e v := by
            intro v hv
            obtain ⟨i, hi, rfl⟩ := List.mem_map.1 hv
            exact (hf i (by have := List.mem_range.1 hi; omega)).1
          have hok := fun v hv => reads_ok n e v hte (hmem v hv)
          by_cases hl0 : len = 0
          · subst hl0
            refine ⟨.lst (shE P e) false .no [], ⟨false, [], rfl, (fun h => by cases h), fun x hx => by cases hx⟩, hc.symm, fun j hj => ?_⟩
            obtain rfl : j = 0 := by omega
            exact V.lst (w := W) (g := gN) (shE P e) .no [] a cap (fun _ => undef) hsp (Nat.zero_le _) hm (fun e he => by cases he) (fun j hj => by simp [flat] at hj) (fun j hj => by simp [flat] at hj) trivial
          · have hs0 : 0 < P.cellsOf e := (hok (f 0) (List.mem_map.2 ⟨0, List.mem_range.2 (by omega), rfl⟩)).2.2.2.1
            obtain ⟨fl1, fl2⟩ := flatS hs0 (fun v hv => (hok v hv).2.2.1)
            rw [hlen] at fl1 fl2
            have hcl : ∀ j, j < len * P.cellsOf e → ∃ u, W.cell? ⟨a.block, a.off + j, none⟩ = some u ∧ V W gN ((flat ((List.range len).map f)).getD j .any) u := by
              intro j hj
              have hd : j / P.cellsOf e < len := Nat.div_lt_of_lt_mul (by rw [Nat.mul_comm]; exact hj)
              have h1 := (hf (j / P.cellsOf e) (by omega)).2 (j % P.cellsOf e) (Nat.mod_lt _ hs0)
              have e1 : j / P.cellsOf e * P.cellsOf e + j % P.cellsOf e = j := Nat.div_add_mod' j _
              rw [e1] at h1
              rw [fl2 j hj, List.getD_eq_getElem?_getD (l := (List.range len).map f), List.getElem?_map, List.getElem?_range hd]
              exact h1
            have hus : ∀ j, ∃ u, j < len * P.cellsOf e → W.cell? ⟨a.block, a.off + j, none⟩ = some u ∧ V W gN ((flat ((List.range len).map f)).getD j .any) u := by
              intro j
              by_cases hj : j < len * P.cellsOf e
              · obtain ⟨u, hu⟩ := hcl j hj
                exact ⟨u, fun _ => hu⟩
              · exact ⟨undef, fun h => absurd h hj⟩
            obtain ⟨us, hus⟩ := Classical.axiomOfChoice hus
            refine ⟨.lst (shE P e) false .no ((List.range len).map f), ⟨false, _, rfl, (fun h => by cases h), hmem⟩, hc.symm, fun j hj => ?_⟩
            obtain rfl : j = 0 := by omega
            have hV := V.lst (w := W) (g := gN) (shE P e) .no ((List.range len).map f) a cap us hsp (by rw [hlen]; exact hl) hm
              (fun v hv => ⟨(hok v hv).1, (hok v hv).2.1⟩)
              (fun j hj => by
                rw [fl1] at hj
                exact ⟨(hus j hj).1, fun h => h, fun h => h⟩)
              (fun j hj => by
                rw [fl1] at hj
                exact (hus j hj).2) trivial
            rw [hlen] at hV
            exact hV
      | struct fs =>
        simp only [Bool.and_eq_true, beq_iff_eq, decide_eq_true_eq] at ht
        obtain ⟨⟨h1, h2⟩, h3⟩ := ht
        obtain ⟨xs, m, _, _, hcl, hxl, hf⟩ := DataW.trod_struct hu h
        have fld : ∀ i, ∃ v : AV, i < fs.size → ∀ f, fs[i]? = some f → Reads P n f.type v ∧ V W gN v (cs.getD i undef) := by
          intro i
          by_cases hi : i < fs.size
          · have hfi : fs[i]? = some fs[i] := Array.getElem?_eq_getElem hi
            obtain ⟨o, c, a, k⟩ := fieldsOk_get h3 i fs[i] (by rw [Array.getElem?_toList]; exact hfi)
            have hx := hf i fs[i] hfi
            rw [List.getElem?_eq_getElem (by omega)] at hx
            obtain ⟨v, hv, hlen, hV⟩ := reads n _ k hx
            refine ⟨v, fun _ f hf => ?_⟩
            rw [hfi] at hf
            obtain rfl := Option.some.inj hf
            refine ⟨hv, ?_⟩
            have h0 := hV 0 (by omega)
            have hat := (reads_ok n _ v k hv).2.2.2.2.2 a
            have hcells : v.cells = [v] := by
              cases v <;> first | rfl | (simp [atomOk] at hat)
            rw [hcells, o, Nat.zero_add, c] at h0
            have e0 : ((cs.drop i).take 1).getD 0 undef = cs.getD i undef := by
              rw [List.getD_eq_getElem?_getD, List.getD_eq_getElem?_getD, List.getElem?_take_of_lt (by omega), List.getElem?_drop]; rfl
            rw [e0] at h0
            exact h0
          · exact ⟨.any, fun h => absurd h hi⟩
        obtain ⟨F, hF⟩ := Classical.axiomOfChoice fld
        have hg : ∀ i, i < fs.size → ((List.range fs.size).map F).getD i .any = F i := by
          intro i hi
          rw [List.getD_eq_getElem?_getD, List.getElem?_map, List.getElem?_range hi]; rfl
        refine ⟨.agg ((List.range fs.size).map F), ⟨_, rfl, by simp, fun i f hf => ?_⟩, hcl, fun j hj => ?_⟩
        · have hi : i < fs.size := (Array.getElem?_eq_some_iff.1 hf).1
          rw [hg i hi]
          exact (hF i hi f hf).1
        · rw [h1] at hj
          show V W gN (((List.range fs.size).map F).getD j .any) _
          rw [hg j hj]
          exact (hF j hj fs[j] (Array.getElem?_eq_getElem hj)).2
      | _ => cases ht
theorem read_slice {n t e : Nat} (ht : tyOk P n t = true) {v : Value} {d : DataW H} {ps : List MemPlace} (hu : P.underlying t = some (.slice e)) (hv : ∃ a len cap, v = .slice a len cap) (h : DataW.Trod enc P W 0 (fun _ => true) true t v d ps) : ∃ y : AV, V W gN y v ∧ Reads P n t y := by
  obtain ⟨a, len, cap, rfl⟩ := hv
  obtain ⟨fuel, h⟩ := h
  have h : DataW.trod enc P W 0 (fun _ => true) true fuel t [.slice a len cap] = some (d, ps) := h
  obtain ⟨y, hy, hl, hV⟩ := reads n t ht h
  obtain ⟨_, _, h3, _, _, h6⟩ := reads_ok n t y ht hy
  have hat : atomT P t = true := by unfold atomT; rw [hu]
  have hc : y.cells = [y] := by
    have := h6 hat
    cases y <;> first | rfl | (simp [atomOk] at this)
  have := hV 0 (by rw [← hl]; exact Nat.zero_lt_one)
  rw [hc] at this
  exact ⟨y, this, hy⟩
end
end Go.Ab

/- What the rows of the diagram seat share: the settings are sound; the table of powers; arguments read as data. -/
set_option linter.unusedVariables false
set_option linter.unusedSimpArgs false
set_option maxRecDepth 100000
namespace Go.Ab
open Go.Proofs Go.Proofs.Tryd Go.RowKit

theorem get_nil (nm : Nat) : Mem.get ([] : Mem) nm = none := by simp [Mem.get]
theorem memR0 {w : World} (h : Yd.tab w) : MemR w.heap.size w gN [] where
  obj nm bx cs h := by rw [get_nil] at h; cases h
  tok nm n sz h := by rw [get_nil] at h; cases h
  resv nm h := ⟨rfl, fun _ => rfl⟩
  fresh nm h := ⟨rfl, fun _ => rfl⟩
  inj nm nm' b h := by unfold blk at h; rw [get_nil] at h; cases h
  wrLt b off h := h.elim
  inv w' k := Yd.tab_below (Yd.tab_lt h) h k
  boxLt b h := h.elim
  mp nm kk es h := by rw [get_nil] at h; cases h
theorem cfgOk : CfgOk cfg where
  ben g h caps := by
    have h : tokGet benOf g = true := h
    unfold benOf at h
    simp only [tokGet] at h
    split at h
    · rename_i e; obtain rfl : 72 = g := Nat.eq_of_beq_eq_true e; exact ben72 caps
    · split at h
      · rename_i e; obtain rfl : 84 = g := Nat.eq_of_beq_eq_true e; exact ben84 caps
      · cases h
  name g fn h := by
    have hall : (Tryd.prog.funcs.toList.all fun fn => !(fn.name == "runtime.NumGoroutine")) = true := by kernel_rfl
    have hm : fn ∈ Tryd.prog.funcs.toList := by
      rw [Array.mem_toList_iff]
      exact Array.mem_of_getElem? h
    have := List.all_eq_true.1 hall fn hm
    simpa using this
  lib g h hh := by
    have hh : (match Nat.beq g 73 with | true => some nameA | false => none) = some h := hh
    split at hh
    · rename_i e
      obtain rfl : g = 73 := Nat.eq_of_beq_eq_true e
      obtain rfl := Option.some.inj hh
      exact ⟨⟨f73, at73, by kernel_rfl⟩, fun vs v hv m => name_ok vs v hv m⟩
    · cases hh
/-- A law that answers true in values answers true on the machine, and turns nothing that was there. -/
theorem law_calls {f : Nat} {args : List AV} {vs : Array Value} {W : World} (ht : Yd.tab W) (h : ∃ m', AC cfg f args [] = some (.bool true, m')) (hl : args.length = vs.size) (hv : ∀ j, j < args.length → V W gN (args.getD j .any) (vs.getD j undef)) :
    Calls Tryd.prog f vs W fun e W' => e = .returned (.bool true) ∧ Below W.heap.size W W' := by
  obtain ⟨m', hm'⟩ := h
  refine ((AC_sound cfgOk f args [] _ _ hm').1 W.heap.size W gN vs (memR0 ht) (Nat.le_refl _) hl hv).mono ?_
  rintro e W' ⟨v', g', rfl, hs, _, hv'⟩
  cases hv'
  exact ⟨rfl, hs.below⟩
/-! ### The table of powers -/
abbrev laidOf : List (String × DataW Unit) := YtpkhogofbdlfeaaDoor.Rows.diagramStepsRow.laid
theorem tab_of_laid {W : World} (h : laidMetH Tryd.prog laidOf W) : Yd.tab W := by
  rw [MakeChecks.laidMetH_plain _ _ _ (by kernel_rfl)] at h
  obtain ⟨ps, ⟨g1, t1, cs1, fuel1, p1, q1, _, _, _, _, ⟨g2, t2, cs2, fuel2, p2, q2, _, _, _, _, ⟨g, t, cs, fuel, p, q, hg, ht, hv, hd, _, _⟩, _⟩, _⟩, _⟩ := h
  obtain rfl := Option.some.inj (Yd.globalPow.symm.trans hg)
  obtain rfl := Option.some.inj ((show (Tryd.prog.globals[0]?).map (·.type) = some 134 by kernel_rfl).symm.trans ht)
  unfold Yd.tab Lib.TabIs
  rw [hv]
  have := Lib.cells_of_tab (zs := Lib.pow10Tab) (k := .u64) Tryd.underlying134 Tryd.underlying128 (by kernel_rfl) (by kernel_rfl) hd
  rw [← this]
/-! ### Types, readers -/
theorem u3 : Tryd.prog.underlying 3 = some (.int .i64) := by kernel_rfl
theorem u4 : Tryd.prog.underlying 4 = some .bool := by kernel_rfl
theorem u22 : Tryd.prog.underlying 22 = some (.slice 3) := by kernel_rfl
theorem u23 : Tryd.prog.underlying 23 = some (.slice 33) := by kernel_rfl
noncomputable def fieldsOf (t : Nat) : Array Field := match Tryd.prog.underlying t with
  | some (.struct fs) => fs
  | _ => #[]
theorem u33 : Tryd.prog.underlying 33 = some (.struct (fieldsOf 33)) := by kernel_rfl
theorem f33 : (fieldsOf 33).toList.map (fun f => f.type) = [3, 3, 22] := by kernel_rfl
theorem s3 : shE Tryd.prog 3 = none := by unfold shE; rw [u3]
theorem sz {t : Nat} {l : List Nat} (h : (fieldsOf t).toList.map (fun f => f.type) = l) : (fieldsOf t).size = l.length := by
  rw [← h, List.length_map, Array.length_toList]
theorem s33 : shE Tryd.prog 33 = some 3 := by unfold shE; rw [u33]; exact congrArg some (sz f33)
theorem fld_type {t : Nat} {l : List Nat} (h : (fieldsOf t).toList.map (fun f => f.type) = l) {i ty : Nat} (hi : l[i]? = some ty) : ∃ f, (fieldsOf t)[i]? = some f ∧ f.type = ty := by
  rw [← h, List.getElem?_map, Option.map_eq_some_iff] at hi
  obtain ⟨f, h1, h2⟩ := hi
  exact ⟨f, by rw [← Array.getElem?_toList]; exact h1, h2⟩
theorem rd_struct {n t : Nat} {v : AV} (ht : Tryd.prog.underlying t = some (.struct (fieldsOf t))) (h : Reads Tryd.prog (n + 1) t v) : ∃ cs, v = .agg cs ∧ cs.length = (fieldsOf t).size ∧ ∀ i ty, ((fieldsOf t).toList.map (fun f => f.type))[i]? = some ty → Reads Tryd.prog n ty (cs.getD i .any) := by
  unfold Reads at h
  rw [ht] at h
  obtain ⟨cs, h1, h2, h3⟩ := h
  refine ⟨cs, h1, h2, fun i ty hi => ?_⟩
  obtain ⟨f, hf, rfl⟩ := fld_type rfl hi
  exact h3 i f hf
theorem rd_slice {n t e : Nat} {v : AV} (ht : Tryd.prog.underlying t = some (.slice e)) (h : Reads Tryd.prog (n + 1) t v) : ∃ z es, v = .lst (shE Tryd.prog e) z .no es ∧ (z = true → es = []) ∧ ∀ x ∈ es, Reads Tryd.prog n e x := by
  unfold Reads at h
  rw [ht] at h
  exact h
theorem rd_int {n : Nat} {v : AV} (h : Reads Tryd.prog (n + 1) 3 v) : ∃ i, v = .int .i64 i ∧ Yd.i64 i := by
  unfold Reads at h
  rw [u3] at h
  obtain ⟨i, h1, hw⟩ := h
  refine ⟨i, h1, ?_⟩
  simp only [Lit.wf, Bool.and_eq_true, decide_eq_true_eq] at hw
  exact hw
theorem list_map' {α : Type} {f : α → AV} {Q : α → Prop} : ∀ {es : List AV}, (∀ x ∈ es, ∃ a, x = f a ∧ Q a) → ∃ l : List α, es = l.map f ∧ ∀ a ∈ l, Q a
  | [], _ => ⟨[], rfl, by simp⟩
  | x :: es, h => by
    obtain ⟨a, rfl, ha⟩ := h x List.mem_cons_self
    obtain ⟨l, rfl, hl⟩ := list_map' (f := f) (Q := Q) fun y hy => h y (List.mem_cons_of_mem _ hy)
    exact ⟨a :: l, rfl, fun b hb => by
      rcases List.mem_cons.1 hb with rfl | hb
      · exact ha
      · exact hl b hb⟩
theorem rd_ints {n : Nat} {v : AV} (h : Reads Tryd.prog (n + 2) 22 v) : ∃ z ns, v = IA z .no ns ∧ (z = true → ns = []) ∧ ∀ k ∈ ns, Yd.i64 k := by
  obtain ⟨z, es, rfl, hz, he⟩ := rd_slice u22 h
  obtain ⟨ns, rfl, hd⟩ := list_map' (f := AV.int .i64) (Q := Yd.i64) (fun x hx => rd_int (he x hx))
  exact ⟨z, ns, by rw [s3], fun h => List.map_eq_nil_iff.1 (hz h), hd⟩
theorem cells3 {cs : List AV} (h : cs.length = 3) : ∃ a b c, cs = [a, b, c] := by
  match cs, h with
  | [a, b, c], _ => exact ⟨a, b, c, rfl⟩
theorem rd_step {n : Nat} {v : AV} (h : Reads Tryd.prog (n + 3) 33 v) : ∃ x : SP, v = x.av ∧ (x.kz = true → x.kids = []) := by
  obtain ⟨cs, rfl, hl, hf⟩ := rd_struct u33 h
  rw [sz f33] at hl
  obtain ⟨a, b, c, rfl⟩ := cells3 hl
  rw [f33] at hf
  obtain ⟨k, hk, _⟩ := rd_int (hf 0 3 rfl)
  obtain ⟨y, hy, _⟩ := rd_int (hf 1 3 rfl)
  obtain ⟨z, ns, hx, hz, _⟩ := rd_ints (hf 2 22 rfl)
  have hk : a = .int .i64 k := hk
  have hy : b = .int .i64 y := hy
  have hx : c = IA z .no ns := hx
  subst hk; subst hy; subst hx
  exact ⟨⟨k, y, z, ns⟩, rfl, hz⟩
theorem ok22 : tyOk Tryd.prog 2 22 = true := by kernel_rfl
theorem ok23 : tyOk Tryd.prog 4 23 = true := by kernel_rfl
section
variable {H : Type} {enc : TypeId × Value → H} {W : World}
theorem ints_read {v : Value} {d : DataW H} {ps : List MemPlace} (hv : ∃ a len cap, v = .slice a len cap) (h : DataW.Trod enc Tryd.prog W 0 (fun _ => true) true 22 v d ps) : ∃ z ns, V W gN (IA z .no ns) v ∧ (z = true → ns = []) ∧ ∀ k ∈ ns, Yd.i64 k := by
  obtain ⟨y, hy, hr⟩ := read_slice ok22 u22 hv h
  obtain ⟨z, ns, rfl, hc⟩ := rd_ints hr
  exact ⟨z, ns, hy, hc⟩
theorem steps_read {v : Value} {d : DataW H} {ps : List MemPlace} (hv : ∃ a len cap, v = .slice a len cap) (h : DataW.Trod enc Tryd.prog W 0 (fun _ => true) true 23 v d ps) : ∃ z sts, V W gN (SL z .no sts) v ∧ ∀ x ∈ sts, x.kz = true → x.kids = [] := by
  obtain ⟨y, hy, hr⟩ := read_slice ok23 u23 hv h
  obtain ⟨z, es, rfl, _, he⟩ := rd_slice u23 hr
  obtain ⟨sts, rfl, hs⟩ := list_map' (f := SP.av) (Q := fun x => x.kz = true → x.kids = []) (fun x hx => rd_step (he x hx))
  rw [s33] at hy
  exact ⟨z, sts, hy, hs⟩
end
end Go.Ab
