/- The store's list of a diagram, by value. -/
import Derived.Test.YtpkhogofbdlfeaaDoorBP3
import Derived.Test.YtpkhogofbdlfeaaDoorBP2
import Derived.Test.YtpkhogofbdlfeaaDoorBP0
import Derived.Test.YtpkhogofbdlfeaaDoorProg
import Derived.Tactics
import Derived.Tactics2
import Derived.Defers
import Derived.Recover
import Derived.Laws.Pointers
import Derived.ProofKit
import Derived.OpenShut
import Derived.ChangeArms
import Derived.LaidMore
import Derived.Lay
import Derived.KernelRfl
import Derived.Test.YtpkhogofbdlfeaaDoorRows
set_option linter.unusedVariables false
set_option linter.unusedSimpArgs false
set_option linter.unusedSectionVars false
set_option maxRecDepth 100000
namespace Go.Ab
open Go.Proofs Go.Proofs.Tryd

theorem ld_box {m : Mem} {nm : Nat} {b : Bool} {v : AV} (h : m.get nm = some (.obj b [v])) : loadA none m (.ptr nm 0) = some v := by
  rw [ld_ptr, h, objE_obj, Option.bind_some]; rfl
theorem st_box {m : Mem} {nm : Nat} {b : Bool} {v0 v : AV} (h : m.get nm = some (.obj b [v0])) (hv : shOk none v = true) (hc : v.cells = [v]) : storeA none m (.ptr nm 0) v = some (m.set nm (some (.obj b [v]))) := by
  rw [st_ptr, h, objE_obj, Option.bind_some]
  simp [putE1, Sh.size, hv, putAt, hc]
theorem ld_bool {m : Mem} {nm i : Nat} {ds : List Bool} (h : m.get nm = some (.obj false (ds.map .bool))) (hi : i < ds.length) : loadA none m (.ptr nm i) = some (.bool (ds.getD i false)) := by
  rw [ld_ptr, h, objE_obj, Option.bind_some, cut1, List.getElem?_map, List.getElem?_eq_getElem hi, List.getD_eq_getElem?_getD, List.getElem?_eq_getElem hi]; rfl
theorem st_bool {m : Mem} {nm i : Nat} {ds : List Bool} {y : Bool} (h : m.get nm = some (.obj false (ds.map .bool))) (hi : i < ds.length) : storeA none m (.ptr nm i) (.bool y) = some (m.set nm (some (.obj false ((ds.set i y).map .bool)))) := by
  have hg : m.obj? nm = some (false, ds.map .bool) := by rw [obj_objE, h]; rfl
  have h1 : i + 1 ≤ ds.length := hi
  simp only [storeA, hg, Option.bind_some, Sh.size, List.length_map, h1, if_true, shOk, atomOk, AV.cells]
  congr 4
  simp only [putAt, List.length_cons, List.length_nil]
  rw [List.map_set, List.set_eq_take_append_cons_drop]
  simp [hi, List.map_take, List.map_drop]
theorem f1v (a b c : AV) : fieldAddrA 1 (.vptr [a, b, c]) = some (.vptr [b, c]) := rfl
theorem f0v (a b c : AV) : fieldAddrA 0 (.vptr [a, b, c]) = some (.vptr [a, b, c]) := rfl
theorem f2v (a b c : AV) : fieldAddrA 2 (.vptr [a, b, c]) = some (.vptr [c]) := rfl
theorem l2v (m : Mem) (a b : AV) : loadA none m (.vptr [a, b]) = some a := rfl
theorem new_s (s : Nat) (m : Mem) (e : Ent) : newAt (some s) m e = (s, m.set s (some e)) := rfl
abbrev NI (z : Bool) (o : Own) (ids : List Nat) : AV := IA z o (ids.map Int.ofNat)
/-- Where the listing stands. -/
structure LS (m0 m : Mem) (b s : Nat) (sb : List Bool) (out : List Nat) (x : AV) (T : List Nat) : Prop where
  hb : b = m0.length
  fr : Fr m0 m []
  h0 : m.get b = some (.obj true [.ptr s 0])
  h1 : m.get (b + 1) = some (.obj true [x])
  h2 : m.get (b + 2) = some (.obj false (sb.map .bool))
  h3 : m.get (b + 3) = some (.obj true [.arr (b + 2) 0 sb.length none])
  h4 : m.get (b + 4) = some (.obj true [.fn 75 [.ptr (b + 3) 0, .ptr b 0, .ptr (b + 4) 0, .ptr (b + 1) 0]])
  gr : GR 3 m x ((out.map Int.ofNat).map (AV.int .i64)) T
  hT : ∀ y ∈ T, b + 5 ≤ y
theorem nodup_lt : ∀ (n : Nat) (l : List Nat), l.Nodup → (∀ x ∈ l, x < n) → l.length ≤ n
  | 0, [], _, _ => Nat.le_refl _
  | 0, x :: l, _, h => by have := h x List.mem_cons_self; omega
  | n + 1, l, hn, h => by
    by_cases hm : n ∈ l
    · have e := List.length_erase_of_mem hm
      have := nodup_lt n (l.erase n) (hn.erase n) fun x hx => by
        have h1 := (hn.mem_erase_iff).1 hx
        have := h x h1.2
        have := h1.1
        omega
      omega
    · have := nodup_lt n l hn fun x hx => by
        have h1 := h x hx
        have : x ≠ n := fun e => hm (e ▸ hx)
        omega
      omega
section
variable {m0 : Mem} {b s : Nat} {F : List Nat} {arms : AV} {most : Int} {l : List ND} {ar : List Int}
def At75 (l : List ND) (m0 : Mem) (b s id : Nat) : Prop := ∀ (m : Mem) (sb : List Bool) (out : List Nat) (x : AV) (T : List Nat), LS m0 m b s sb out x T → sb.length = l.length → Cl l out → (∀ i, i ≤ id → sb.getD i false = decide (i ∈ out)) →
  ∃ (m' : Mem) (sb' : List Bool) (x' : AV) (T' : List Nat), AC cfg 75 [.int .i64 id, .ptr (b + 3) 0, .ptr b 0, .ptr (b + 4) 0, .ptr (b + 1) 0] m = some (.tup [], m') ∧ LS m0 m' b s sb' (Vi l id out) x' T' ∧ sb'.length = l.length ∧
    (∀ i, i ≤ id → sb'.getD i false = decide (i ∈ Vi l id out)) ∧ ∀ i, id < i → sb'.getD i false = sb.getD i false
theorem W75 (g : GoodL ar l) {id : Nat} (hid : id < l.length) (hll : l.length ≤ 100000) (ih : ∀ k, k < id → At75 l m0 b s k) {z : Bool} {o : Own} {kids : List Int} (hk : ∀ k ∈ kids, ∃ t : Nat, k = t ∧ t < id) (hkl : kids.length ≤ 1000) : ∀ (j i : Nat) (m : Mem) (sb : List Bool) (out : List Nat) (x : AV) (T : List Nat), i + j = kids.length → LS m0 m b s sb out x T → sb.length = l.length → Cl l out → (∀ i, i < id → sb.getD i false = decide (i ∈ out)) →
    ∃ (m' : Mem) (sb' : List Bool) (x' : AV) (T' : List Nat), L75_3 (.int .i64 id) (.ptr (b + 4) 0) (.ptr (b + 1) 0) (IA z o kids) (.int .i64 kids.length) (.int .i64 i) m (K75_3 (finK cfg.P f75.results.toList)) = K75_3 (finK cfg.P f75.results.toList) (.exit 0) (O75_3 (.int .i64 id) (.ptr (b + 1) 0) m') ∧
      LS m0 m' b s sb' (Vis l (kids.drop i) out) x' T' ∧ sb'.length = l.length ∧ (∀ i, i < id → sb'.getD i false = decide (i ∈ Vis l (kids.drop i) out) ∨ True) ∧ (∀ q, q < id → sb'.getD q false = decide (q ∈ Vis l (kids.drop i) out)) ∧ ∀ q, id ≤ q → sb'.getD q false = sb.getD q false := by
  intro j
  induction j with
  | zero =>
    intro i m sb out x T hi h hsl hc hsb
    refine ⟨m, sb, x, T, ?_, ?_, hsl, fun _ _ => .inr trivial, ?_, fun _ _ => rfl⟩
    · rw [L75_3_eq, binA_lss, Option.bind_some, ifA_dec, if_neg (by omega)]
    · rw [List.drop_eq_nil_of_le (by omega)]; exact h
    · rw [List.drop_eq_nil_of_le (by omega)]; exact hsb
  | succ j ihj =>
    intro i m sb out x T hi h hsl hc hsb
    have hil : i < kids.length := by omega
    obtain ⟨t, et, ht⟩ := hk _ (List.getElem_mem hil)
    obtain ⟨m1, sb1, x1, T1, e1, k1, k2, k3, k4⟩ := ih t ht m sb out x T h hsl hc (fun q hq => hsb q (by omega))
    obtain ⟨c1, c2, r, c3, c4⟩ := Vi_facts g t (by omega) out hc
    have hsb1 : ∀ q, q < id → sb1.getD q false = decide (q ∈ Vi l t out) := fun q hq => by
      by_cases hqt : q ≤ t
      · exact k3 q hqt
      · rw [k4 q (by omega), hsb q hq]
        refine decide_eq_decide.2 ⟨fun hh => by rw [c3]; exact List.mem_append_left _ hh, fun hh => ?_⟩
        rw [c3] at hh
        rcases List.mem_append.1 hh with hh | hh
        · exact hh
        · have := c4 q hh; omega
    obtain ⟨m', sb', x', T', e2, n1, n2, _, n3, n4⟩ := ihj (i + 1) m1 sb1 (Vi l t out) x1 T1 (by omega) k1 k2 c1 hsb1
    have ed : Vis l (kids.drop i) out = Vis l (kids.drop (i + 1)) (Vi l t out) := by
      rw [List.drop_eq_getElem_cons hil, Vis_cons, et, Int.toNat_natCast]
    refine ⟨m', sb', x', T', ?_, by rw [ed]; exact n1, n2, fun _ _ => .inr trivial, by rw [ed]; exact n3, fun q hq => by rw [n4 q hq, k4 q (by omega)]⟩
    have e1 : AC cfg 75 ([.int .i64 kids[i]] ++ [.ptr (b + 3) 0, .ptr b 0, .ptr (b + 4) 0, .ptr (b + 1) 0]) m = some (.tup [], m1) := by rw [et]; exact e1
    rw [L75_3_eq, binA_lss, Option.bind_some, ifA_dec, if_pos (by omega), idx_IA hil, Option.bind_some, loadA_one, Option.bind_some, ld_box h.h4, Option.bind_some, show fnOf (.fn 75 [.ptr (b + 3) 0, .ptr b 0, .ptr (b + 4) 0, .ptr (b + 1) 0]) = some (75, [.ptr (b + 3) 0, .ptr b 0, .ptr (b + 4) 0, .ptr (b + 1) 0]) from rfl, Option.bind_some, callK_in rfl rfl rfl, e1, Option.bind_some, i_add1 (by omega), Option.bind_some]
    exact e2
theorem A75 (h0 : St8 m0 s F arms most l) (hb : b = m0.length) (g : GoodL ar l) (hll : l.length ≤ 100000) : ∀ id, id < l.length → At75 l m0 b s id := by
  intro id
  induction id using Nat.strongRecOn with
  | ind id ih =>
    intro hid m sb out x T h hsl hc hsb
    have hsb0 := hsb id (Nat.le_refl _)
    have ld3 := ld_box h.h3
    have hixa : indexAddrA none (.arr (b + 2) 0 sb.length none) (.int .i64 id) = some (.ptr (b + 2) id) := index_arr (by omega)
    have st := h0.app h.fr
    obtain ⟨p, na, TT, st, _⟩ := st
    have hs := st.hs
    have hnx := na_idx st.hn hid
    have lb := ld_bool h.h2 (i := id) (by omega)
    have b2 := get_lt h.h2
    have b4 := get_lt h.h4
    have hsm : s < m0.length := by
      obtain ⟨p, na, TT, st0, _⟩ := h0
      exact get_lt st0.hs
    by_cases hm : id ∈ out
    · rw [decide_eq_true hm] at hsb0
      refine ⟨m, sb, x, T, ?_, ?_, hsl, ?_, fun _ _ => rfl⟩
      · rw [T75, ld3, Option.bind_some, hixa, Option.bind_some, lb, Option.bind_some, hsb0, ifA_t]
      · rw [Vi_eq g hid, if_pos hm]; exact h
      · rw [Vi_eq g hid, if_pos hm]; exact hsb
    · rw [decide_eq_false hm] at hsb0
      have sbq := st_bool (y := true) h.h2 (i := id) (by omega)
      have h' : LS m0 (m.set (b + 2) (some (.obj false ((sb.set id true).map .bool)))) b s (sb.set id true) out x T := by
        refine ⟨hb, h.fr.set _ (.inr (by omega)), ?_, ?_, ?_, ?_, ?_, ?_, h.hT⟩
        · rw [g_sne (by omega)]; exact h.h0
        · rw [g_sne (by omega)]; exact h.h1
        · exact g_seq rfl b2
        · rw [g_sne (by omega), List.length_set]; exact h.h3
        · rw [g_sne (by omega)]; exact h.h4
        · exact gr_move h.gr fun y hy => g_sne (by have := h.hT y hy; omega)
      have hsb' : ∀ q, q < id → (sb.set id true).getD q false = decide (q ∈ out) := fun q hq => by
        rw [List.getD_eq_getElem?_getD, List.getElem?_set_ne (by omega), ← List.getD_eq_getElem?_getD]
        exact hsb q (by omega)
      have hkA := kids_IA (st.ok _ (List.getElem_mem hid))
      have hkl : l[id].kids.length ≤ 1000 := by
        rcases st.ok _ (List.getElem_mem hid) with ⟨_, h2, _⟩ | ⟨_, _, _, _, h5⟩
        · rw [h2]; simp
        · omega
      obtain ⟨m1, sb1, x1, T1, e1, k1, k2, _, k3, k4⟩ := W75 g hid hll (fun k hk => ih k hk (by omega)) (z := kz l[id]) (o := ko l[id]) (kids := l[id].kids) (fun k hk => kid_lt g hid k hk) hkl l[id].kids.length 0 _ _ out x T (by omega) h' (by rw [List.length_set]; exact hsl) hc hsb'
      rw [List.drop_zero] at k1 k3
      obtain ⟨c1, c2, r, c3, c4⟩ := Vis_facts g hid l[id].kids (fun k hk => kid_lt g hid k hk) out hc
      have hl2 : (Vis l l[id].kids out).length ≤ l.length := by
        exact nodup_lt _ _ c1.nd c1.lt
      obtain ⟨x2, m2, T2, ea, g2, f2, gg2⟩ := gr_app (b := 8) k1.gr (by simp; omega) (by omega) (.int .i64 (id : Nat))
      have hne : ∀ q, q < b + 5 → q ∉ T1 := fun q hq hT => by have := k1.hT q hT; omega
      have ge : ∀ q, q < b + 5 → m2.get q = m1.get q := fun q hq => f2.get q (by have := get_lt k1.h4; omega) (hne q hq)
      have hl1 := get_lt k1.h4
      have hl12 := f2.len
      have g21 : m2.get (b + 1) = some (.obj true [x1]) := by rw [ge _ (by omega)]; exact k1.h1
      obtain ⟨xz, xo, rfl, _⟩ := gr_out g2
      have sx := st_box (v := .lst none xz xo ((Vis l l[id].kids out).map Int.ofNat |>.map (AV.int .i64) |>.append [.int .i64 id])) g21 rfl rfl
      have eV : Vi l id out = Vis l l[id].kids out ++ [id] := by rw [Vi_eq g hid, if_neg hm]
      have sx : storeA none m2 (.ptr (b + 1) 0) (.lst none xz xo (((Vis l l[id].kids out).map Int.ofNat).map (AV.int .i64) ++ [.int .i64 id])) = some (m2.set (b + 1) (some (.obj true [.lst none xz xo (((Vis l l[id].kids out).map Int.ofNat).map (AV.int .i64) ++ [.int .i64 id])]))) := st_box g21 rfl rfl
      refine ⟨m2.set (b + 1) (some (.obj true [.lst none xz xo (((Vis l l[id].kids out).map Int.ofNat).map (AV.int .i64) ++ [.int .i64 id])])), sb1, .lst none xz xo (((Vis l l[id].kids out).map Int.ofNat).map (AV.int .i64) ++ [.int .i64 id]), T2, ?_, ?_, k2, ?_, ?_⟩
      · rw [T75, ld3, Option.bind_some, hixa, Option.bind_some, lb, Option.bind_some, hsb0, ifA_f]
        rw [Option.bind_some, hixa, Option.bind_some, sbq, Option.bind_some, ld_box h'.h0, Option.bind_some, nil_ptr, Option.bind_some, fa_ptr, Option.bind_some]
        have ldna : loadA none (m.set (b + 2) (some (.obj false ((sb.set id true).map .bool)))) (.ptr s (0 + 1)) = some na := by
          rw [ld_ptr, g_sne (by omega), hs]; rfl
        rw [ldna, Option.bind_some, hnx, Option.bind_some, f1v, Option.bind_some, l2v, Option.bind_some, hkA, len_IA, Option.bind_some]
        have e1 : L75_3 (.int .i64 id) (.ptr (b + 4) 0) (.ptr (b + 1) 0) (IA (kz l[id]) (ko l[id]) l[id].kids) (.int .i64 l[id].kids.length) (.int .i64 0) (m.set (b + 2) (some (.obj false ((sb.set id true).map .bool)))) (K75_3 (finK cfg.P f75.results.toList)) = _ := e1
        rw [e1, K75_3_x0, ld_box k1.h1, Option.bind_some, build_int, Option.bind_some, ea, Option.bind_some, sx, Option.bind_some]
      · rw [eV]
        refine ⟨hb, (Fr.trans k1.fr f2 fun y hy => .inr (by have := k1.hT y hy; omega)).set _ (.inr (by omega)), ?_, ?_, ?_, ?_, ?_, ?_, ?_⟩
        · rw [g_sne (by omega), ge _ (by omega)]; exact k1.h0
        · exact g_seq rfl (by omega)
        · rw [g_sne (by omega), ge _ (by omega)]; exact k1.h2
        · rw [g_sne (by omega), ge _ (by omega)]; exact k1.h3
        · rw [g_sne (by omega), ge _ (by omega)]; exact k1.h4
        · rw [List.map_append, List.map_append]
          refine gr_move g2 fun y hy => g_sne ?_
          rcases gg2 y hy with hh | hh
          · have := k1.hT y hh; omega
          · omega
        · intro y hy
          rcases gg2 y hy with hh | hh
          · exact k1.hT y hh
          · omega
      · intro q hq
        rw [eV]
        by_cases hqi : q = id
        · subst hqi
          rw [k4 q (Nat.le_refl _), List.getD_eq_getElem?_getD, List.getElem?_set_self (by omega), Option.getD_some]
          exact (decide_eq_true (by simp)).symm
        · rw [k3 q (by omega)]
          refine decide_eq_decide.2 ⟨fun hh => List.mem_append_left _ hh, fun hh => ?_⟩
          rcases List.mem_append.1 hh with hh | hh
          · exact hh
          · exact absurd (by simpa using hh) hqi
      · intro q hq
        rw [k4 q (by omega), List.getD_eq_getElem?_getD, List.getElem?_set_ne (by omega), ← List.getD_eq_getElem?_getD]
theorem make_bool (m : Mem) (n : Nat) (h : n ≤ 100000) : makeA none 4 none (.bool false) 1 m (.int .i64 n) (.int .i64 n) = some (.arr m.length 0 n none, m ++ [some (Ent.obj false ((List.replicate n false).map .bool))]) := by
  have h3 : (n : Int) * 1 ≤ 281474976710656 := by omega
  have h4 : (n : Int) ≤ 9223372036854775807 := by omega
  have h5 : (0 : Int) ≤ n := by omega
  simp only [makeA, newAt, zeros, Int.le_refl, if_true, Int.toNat_natCast, List.map_replicate]
  rw [if_pos ⟨h5, trivial, h3, h4⟩]
theorem A61 (h0 : St8 m0 s F arms most l) (g : GoodL ar l) (hll : l.length ≤ 100000) {id : Nat} (hid : id < l.length) : ∃ (m' : Mem) (x : AV) (T : List Nat), AC cfg 61 [.ptr s 0, .int .i64 id] m0 = some (x, m') ∧ GR 3 m' x (((Vi l id []).map Int.ofNat).map (AV.int .i64)) T ∧ Fr m0 m' [] := by
  have hx := h0
  obtain ⟨p, na, TT, h, _⟩ := hx
  have hs := h.hs
  have hsl := get_lt hs
  have hlen : lenA false na = some (.int .i64 l.length) := by
    cases h.hn with
    | none => rfl
    | some t l ht => rw [lenA_lst, List.length_map]
  have mk := fun m => make_bool m l.length hll
  generalize hM : (List.set ((List.set (((m0 ++ [some (Ent.obj true [.ptr s 0])]) ++ [some (Ent.obj true [.lst none true .full []])]) ++ [some (Ent.obj false ((List.replicate l.length false).map .bool))] ++ [some (Ent.obj true [.lst none true .full []])]) (m0.length + 1 + 1 + 1) (some (Ent.obj true [.arr (m0.length + 1 + 1) 0 l.length none]))) ++ [some (Ent.obj true [.nilf])]) (m0.length + 1 + 1 + 1 + 1) (some (Ent.obj true [.fn 75 [.ptr (m0.length + 1 + 1 + 1) 0, .ptr m0.length 0, .ptr (m0.length + 1 + 1 + 1 + 1) 0, .ptr (m0.length + 1) 0]]))) = M
  have ls : LS m0 M m0.length s (List.replicate l.length false) [] (.lst none true .full []) [] := by
    rw [← hM]
    refine ⟨rfl, ?_, (by simp (disch := (first | assumption | omega | (simp only [List.length_append, List.length_set, List.length_cons, List.length_nil]; first | done | omega))) only [resv1, g_lt, g_eq, g_sne, g_seq]; first | done | rfl), (by simp (disch := (first | assumption | omega | (simp only [List.length_append, List.length_set, List.length_cons, List.length_nil]; first | done | omega))) only [resv1, g_lt, g_eq, g_sne, g_seq]; first | done | rfl), (by simp (disch := (first | assumption | omega | (simp only [List.length_append, List.length_set, List.length_cons, List.length_nil]; first | done | omega))) only [resv1, g_lt, g_eq, g_sne, g_seq]; first | done | rfl), ?_, (by simp (disch := (first | assumption | omega | (simp only [List.length_append, List.length_set, List.length_cons, List.length_nil]; first | done | omega))) only [resv1, g_lt, g_eq, g_sne, g_seq]; first | done | rfl), .none, by simp⟩
    · exact ((((((Fr.app m0 _ _).snoc _).snoc _).snoc _).set _ (.inr (by omega))).snoc _).set _ (.inr (by omega))
    · rw [List.length_replicate]; exact (by simp (disch := (first | assumption | omega | (simp only [List.length_append, List.length_set, List.length_cons, List.length_nil]; first | done | omega))) only [resv1, g_lt, g_eq, g_sne, g_seq]; first | done | rfl)
  obtain ⟨m', sb', x', T', e, k1, _, _, _⟩ := A75 h0 rfl g hll id hid M (List.replicate l.length false) [] (.lst none true .full []) [] ls (by simp) cl_nil (fun i hi => by
    rw [List.getD_eq_getElem?_getD, List.getElem?_replicate, if_pos (by omega)]; rfl)
  refine ⟨m', x', T', ?_, k1.gr, k1.fr⟩
  rw [T61]
  repeat ((with_reducible (first | apply bs | apply bsy)); (focus (first | (simp (disch := (first | assumption | omega | (simp only [List.length_append, List.length_set, List.length_cons, List.length_nil]; first | done | omega))) only [List.all_cons, List.all_nil, Bool.and_true, Bool.and_self, beq_self_eq_true, resv1, List.length_map, ld_v3, ld_v1, binA_eql, binA_neq, binA_lss, binA_leq, binA_gtr, binA_geq, loadA_one, un_not, ld_ptr, st_ptr, putE1, objE_obj, Option.bind_some, cut1, cut3, cut4, nil_ptr, fa_ptr, g_lt, g_eq, g_sne, g_seq, new_n, box_n, List.getElem?_cons_zero, List.getElem?_cons_succ, ex0, ex1, Sh.size, cells_int, aok_int, cells_bool, aok_bool, cells_str, aok_str, cells_lst, aok_lst, cells_ptr, aok_ptr, cells_arr, aok_arr, cells_fn, aok_fn, cells_mref, aok_mref, cells_nilp, aok_nilp, cells_agg, shOk_n, shOk_s, lenA_lst, List.length_cons, List.length_nil, if_true, putAt, List.take_succ_cons, List.take_zero, List.drop_succ_cons, List.drop_zero, List.cons_append, List.nil_append, List.append_nil, Nat.zero_add, Nat.reduceAdd, Nat.reduceLeDiff, Nat.le_refl, List.drop_nil, List.take_nil, List.length_append, List.length_set, hs, hlen, mk, box_p]; first | done | rfl) | rfl)); try dsimp only)
  have en : (newAt none (m0 ++ [some (Ent.obj true [.ptr s 0])]) .resv).1 = m0.length + 1 := by simp [new_n]
  rw [callK_in rfl rfl rfl, hM, List.singleton_append, e, Option.bind_some, en]
  dsimp only
  rw [ld_box k1.h1, Option.bind_some]
end
end Go.Ab

/- List: the nodes of a diagram, each with the places of its kids. -/
set_option linter.unusedVariables false
set_option linter.unusedSimpArgs false
set_option linter.unusedSectionVars false
set_option maxRecDepth 100000
namespace Go.Ab
open Go.Proofs Go.Proofs.Tryd

def pe : Nat → List Nat → List (AV × AV)
  | _, [] => []
  | k, i :: l => (.int .i64 i, .int .i64 k) :: pe (k + 1) l
theorem pe_app (n : Nat) : ∀ (l : List Nat) (k : Nat), pe k (l ++ [n]) = pe k l ++ [(.int .i64 n, .int .i64 (k + l.length : Nat))]
  | [], k => rfl
  | x :: l, k => by
    rw [List.cons_append, pe, pe, pe_app n l (k + 1)]
    simp only [List.cons_append, List.length_cons]
    congr 5
    omega
theorem pe_len : ∀ (l : List Nat) (k : Nat), (pe k l).length = l.length
  | [], _ => rfl
  | _ :: l, k => by rw [pe, List.length_cons, pe_len l, List.length_cons]
theorem pe_find {n : Nat} : ∀ (l : List Nat) (k : Nat), (pe k l).find? (fun p => keyB p.1 (.int .i64 n)) = if n ∈ l then some (.int .i64 n, .int .i64 (k + l.idxOf n : Nat)) else none
  | [], k => rfl
  | x :: l, k => by
    have hk : keyB (.int .i64 (x : Int)) (.int .i64 (n : Int)) = decide (x = n) := by
      simp only [keyB, atomB, decide_true, Bool.true_and]
      exact decide_eq_decide.2 (by omega)
    rw [pe, List.find?_cons, hk]
    by_cases he : x = n
    · subst he
      simp
    · rw [decide_eq_false he]
      simp only []
      rw [pe_find l (k + 1)]
      have : n ∈ x :: l ↔ n ∈ l := ⟨fun h => (List.mem_cons.1 h).resolve_left (fun e => he e.symm), List.mem_cons_of_mem _⟩
      by_cases hm : n ∈ l
      · rw [if_pos hm, if_pos (this.2 hm), List.idxOf_cons, cond_eq_ite, if_neg (by simpa using he)]
        congr 3
        omega
      · rw [if_neg hm, if_neg (fun h => hm (this.1 h))]
theorem keyOk_i {n : Nat} (h : n ≤ 1000000) : keyOkA (.int .i64) (.int .i64 n) = true := by
  have h1 : IntKind.min .i64 ≤ (n : Int) := by show (-9223372036854775808 : Int) ≤ n; omega
  have h2 : (n : Int) ≤ IntKind.max .i64 := by show (n : Int) ≤ 9223372036854775807; omega
  simp only [keyOkA, intW, wfI, decide_eq_true h1, decide_eq_true h2, decide_true, Bool.and_self]
theorem look_i {m : Mem} {p n : Nat} {l : List Nat} (hp : m.get p = some (.mp (.int .i64) (pe 0 l))) (hn : n ≤ 1000000) (hm : n ∈ l) (z : AV) : lookA (.int .i64) z m (.mref p) (.int .i64 n) = some (.int .i64 (l.idxOf n : Nat), true) := by
  have h1 : mpA m (.int .i64) (.mref p) = some (p, pe 0 l) := by simp [mpA, hp]
  unfold lookA
  rw [h1]
  simp only [Option.bind_some, keyOk_i hn, if_true, lookE, pe_find l 0, if_pos hm, Nat.zero_add]
theorem upd_i {m : Mem} {p n : Nat} {l : List Nat} (hp : m.get p = some (.mp (.int .i64) (pe 0 l))) (hn : n ≤ 1000000) (hm : n ∉ l) (hl : l.length ≤ 100000) : updA (.int .i64) m (.mref p) (.int .i64 n) (.int .i64 l.length) = some (m.set p (some (.mp (.int .i64) (pe 0 (l ++ [n]))))) := by
  have h1 : mpA m (.int .i64) (.mref p) = some (p, pe 0 l) := by simp [mpA, hp]
  have h3 : (pe 0 l).any (fun p => keyB p.1 (.int .i64 n)) = false := by
    have := pe_find (n := n) l 0
    rw [if_neg hm, List.find?_eq_none] at this
    rw [List.any_eq_false]
    exact this
  unfold updA
  rw [h1, Option.bind_some, if_pos ⟨keyOk_i hn, rfl, by rw [pe_len]; unfold maxLen; omega⟩, pe_app]
  simp only [putE, h3, Nat.zero_add]
theorem nr_app {e : Nat} {m : Mem} {x : AV} {l : List ND} {T : List Nat} (h : NR e m x l T) (hl : l.length ≤ 100000) (n : ND) : ∃ x' m' T', appA none false e (some 3) 40 m x (.lst (some 3) false .full [n.av]) = some (x', m') ∧ NR e m' x' (l ++ [n]) T' ∧ Fr m m' T ∧ Gr m T T' := by
  have h2 : (l.length + 1) * 40 ≤ roomA := by unfold roomA; omega
  cases h with
  | none =>
    refine ⟨.lst (some 3) false (.tok m.length e) [n.av], m ++ [some (Ent.tok 1 3)], [m.length], ?_, .some _ [n] (by simp (disch := (first | assumption | omega | (simp only [List.length_append, List.length_set, List.length_cons, List.length_nil]; first | done | omega))) only [resv1, g_lt, g_eq, g_sne, g_seq]; first | done | rfl), Fr.app m _ _, fun k hk => ?_⟩
    · have h2 : 40 ≤ roomA := by unfold roomA; omega
      simp [appA, h2, newAt, Sh.size]
    · obtain rfl : k = m.length := by simpa using hk
      exact .inr (Nat.le_refl _)
  | some t es ht =>
    have htl := get_lt ht
    refine ⟨.lst (some 3) false (.tok t e) (l.map ND.av ++ [n.av]), m.set t (some (Ent.tok (l.length + 1) 3)), [t], ?_, ?_, (Fr.refl m [t]).set _ (.inl (by simp)), Gr.refl _ _⟩
    · simp [appA, ht, Sh.size, h2]
    · have e3 : l.map ND.av ++ [n.av] = (l ++ [n]).map ND.av := by simp
      rw [e3]
      refine .some t (l ++ [n]) ?_
      rw [g_seq rfl htl, List.length_append]; rfl
/-- A row's parts strip to a node's kids. -/
theorem strip_gr {m : Mem} {x : AV} {ks : List Int} {T : List Nat} (h : GR 3 m x (ks.map (AV.int .i64)) T) {n : ND} (hk : n.kids = ks) (hn : n.ok) (hne : ¬ n.var < 0 → ks ≠ []) : ∃ z o, x = .lst none z o (n.kids.map (AV.int .i64)) ∧ stripA (.lst none z o (n.kids.map (AV.int .i64))) = kidsA n := by
  subst hk
  generalize he : n.kids.map (AV.int .i64) = es at h
  cases h with
  | none =>
    refine ⟨true, .full, rfl, ?_⟩
    unfold kidsA
    rw [if_pos]
    · rfl
    · refine Decidable.byContradiction fun hv => hne hv (List.map_eq_nil_iff.1 he)
  | some t es ht hne2 =>
    refine ⟨false, .tok t 3, rfl, ?_⟩
    unfold kidsA
    rw [if_neg, he]
    · rfl
    · intro hv
      rcases hn with ⟨_, h2, _⟩ | ⟨h1, _⟩
      · rw [h2] at he
        exact hne2 he.symm
      · omega
/-! ### The walk over the ids -/
section
variable {m0 : Mem} {s : Nat} {F : List Nat} {arms : AV} {most : Int} {l : List ND} {ar : List Int}
theorem W25k {pm c : Nat} {p : List Nat} {v leaf : Int} {kids : List Int} {x0 : AV} (hp0 : p.length ≤ 100000) (hpb : ∀ y ∈ p, y ≤ 1000000) {m1 : Mem} (hc : c < m1.length) (hpm : pm < m1.length) (hne : pm ≠ c) {z : Bool} {o : Own} (hk : ∀ k ∈ kids, ∃ t : Nat, k = t ∧ t ∈ p) (hkl : kids.length ≤ 1000) (hp : m1.get pm = some (.mp (.int .i64) (pe 0 p))) (x6 x7 x22 x23 x24 : AV) (hx6 : x6 = .mref pm) (K : Ex → St → Option (AV × Mem)) : ∀ (j i : Nat) (m : Mem) (x : AV) (T : List Nat), i + j = kids.length → Fr m1 m [c] → m.get c = some (.obj true [.int .i64 v, x, .int .i64 leaf]) → GR 3 m x (((kids.take i).map fun k => ((p.idxOf k.toNat : Nat) : Int)).map (AV.int .i64)) T → (∀ y ∈ T, m1.length ≤ y) →
    ∃ (m' : Mem) (x' : AV) (T' : List Nat), L25_13 x0 x6 x7 (.ptr c 0) x22 x23 x24 (IA z o kids) (.int .i64 kids.length) (.int .i64 i) m (K25_13 K) = K25_13 K (.exit 2) (O25_13 x0 x6 x7 (.ptr c 0) x22 x23 x24 m') ∧ Fr m1 m' [c] ∧ m'.get c = some (.obj true [.int .i64 v, x', .int .i64 leaf]) ∧ GR 3 m' x' ((kids.map fun k => ((p.idxOf k.toNat : Nat) : Int)).map (AV.int .i64)) T' ∧ ∀ y ∈ T', m1.length ≤ y := by
  subst hx6
  intro j
  induction j with
  | zero =>
    intro i m x T hi f hg hr hT
    rw [List.take_of_length_le (by omega)] at hr
    refine ⟨m, x, T, ?_, f, hg, hr, hT⟩
    rw [L25_13_eq, binA_lss, Option.bind_some, ifA_dec, if_neg (by omega)]
  | succ j ih =>
    intro i m x T hi f hg hr hT
    have hil : i < kids.length := by omega
    obtain ⟨t, et, ht⟩ := hk _ (List.getElem_mem hil)
    have hcl := get_lt hg
    have hpg : m.get pm = some (.mp (.int .i64) (pe 0 p)) := (f.get _ hpm (by simpa using hne)).trans hp
    have lk := look_i hpg (hpb t ht) ht (.int .i64 0)
    obtain ⟨x2, m2, T2, ea, g2, f2, gg2⟩ := gr_app (b := 8) hr (by simp; omega) (by omega) (.int .i64 (p.idxOf t : Nat))
    have hcT : c ∉ T := fun h => by have := hT c h; omega
    have g2c : m2.get c = some (.obj true [.int .i64 v, x, .int .i64 leaf]) := (f2.get _ hcl hcT).trans hg
    obtain ⟨xz, xo, rfl, _⟩ := gr_out g2
    have st : storeA none m2 (.ptr c (0 + 1)) (.lst none xz xo (((kids.take i).map fun k => ((p.idxOf k.toNat : Nat) : Int)).map (AV.int .i64) ++ [.int .i64 (p.idxOf t : Nat)])) = some (m2.set c (some (.obj true [.int .i64 v, .lst none xz xo (((kids.take i).map fun k => ((p.idxOf k.toNat : Nat) : Int)).map (AV.int .i64) ++ [.int .i64 (p.idxOf t : Nat)]), .int .i64 leaf]))) := by
      rw [st_ptr, g2c, objE_obj, Option.bind_some]; rfl
    have hcl2 := get_lt g2c
    have ek : (((kids.take i).map fun k => ((p.idxOf k.toNat : Nat) : Int)).map (AV.int .i64) ++ [.int .i64 (p.idxOf t : Nat)]) = ((kids.take (i + 1)).map fun k => ((p.idxOf k.toNat : Nat) : Int)).map (AV.int .i64) := by
      rw [List.take_succ_eq_append_getElem hil, List.map_append, List.map_append, et]; rfl
    obtain ⟨m', x', T', e, k⟩ := ih (i + 1) (m2.set c (some (.obj true [.int .i64 v, .lst none xz xo (((kids.take i).map fun k => ((p.idxOf k.toNat : Nat) : Int)).map (AV.int .i64) ++ [.int .i64 (p.idxOf t : Nat)]), .int .i64 leaf]))) _ T2 (by omega) ((Fr.trans f f2 fun y hy => .inr (hT y hy)).set _ (.inl (by simp))) (g_seq rfl hcl2) (by
      rw [← ek]
      exact gr_move g2 fun y hy => g_sne (by
        rcases gg2 y hy with hh | hh
        · have := hT y hh; omega
        · have := f.len; omega)) (fun y hy => by
      rcases gg2 y hy with hh | hh
      · exact hT y hh
      · have := f.len; omega)
    refine ⟨m', x', T', ?_, k⟩
    have ldx : loadA none m (.ptr c (0 + 1)) = some x := by rw [ld_ptr, hg]; rfl
    rw [L25_13_eq, binA_lss, Option.bind_some, ifA_dec, if_pos (by omega), idx_IA hil, Option.bind_some, loadA_one, Option.bind_some, fa_ptr, Option.bind_some, ldx, Option.bind_some, et, lk, Option.bind_some, build_int, Option.bind_some, ea, Option.bind_some, Option.bind_some, st, Option.bind_some, i_add1 (by omega), Option.bind_some]
    exact e
theorem nd_ok (g : GoodL ar l) (hll : l.length ≤ 100000) {p : List Nat} (hp : p.length ≤ 100000) {id : Nat} (hid : id < l.length) : (nd l p id).ok := by
  unfold nd
  rw [getD_at hid]
  rcases g.ok _ (List.getElem_mem hid) with ⟨a1, a2, a3⟩ | ⟨a1, a2, a3, a4, a5⟩
  · refine .inl ⟨a1, ?_, a3⟩
    simp only [a2]; rfl
  · refine .inr ⟨a1, a2, a3, fun k hk => ?_, by simpa using a5⟩
    obtain ⟨q, _, rfl⟩ := List.mem_map.1 hk
    have := List.idxOf_le_length (a := q.toNat) (l := p)
    omega
theorem cl_pre {p q : List Nat} (h : Cl l (p ++ q)) : Cl l p := by
  refine ⟨(List.nodup_append.1 h.nd).1, fun j hj => h.lt j (List.mem_append_left _ hj), fun i hi hj k hk => ?_⟩
  have hi2 : i < (p ++ q).length := by simp; omega
  have e : (p ++ q)[i] = p[i] := List.getElem_append_left hi
  have hj2 : (p ++ q)[i] < l.length := by rw [e]; exact hj
  have := h.cl i hi2 hj2 k (by
    have : ∀ (y : Nat) (hy : y < l.length), y = p[i] → k ∈ l[y].kids := fun y hy ey => by subst ey; exact hk
    exact this _ hj2 e)
  rwa [List.take_append_of_le_length (by omega)] at this
theorem W25 (h0 : St8 m0 s F arms most l) (g : GoodL ar l) (hll : l.length ≤ 100000) (hkn : kidsNe l) {pm : Nat} (hpm : m0.length = pm) {z : Bool} {o : Own} {ids : List Nat} (hc : Cl l ids) : ∀ (q p : List Nat) (m : Mem) (y : AV) (T : List Nat), ids = p ++ q → Fr m0 m [] → m.get pm = some (.mp (.int .i64) (pe 0 p)) → NR 44 m y (mapN l p) T → (∀ k ∈ T, pm < k) →
    ∃ (m' : Mem) (y' : AV) (T' : List Nat), L25_8 (.ptr s 0) (.mref pm) y (NI z o ids) (.int .i64 ids.length) (.int .i64 p.length) m (K25_8 (finK cfg.P f25.results.toList)) = some (.tup [y', .int .i64 0], m') ∧ NR 44 m' y' (mapN l ids) T' ∧ Fr m0 m' [] := by
  have hil : ids.length ≤ l.length := nodup_lt _ _ hc.nd hc.lt
  intro q
  induction q with
  | nil =>
    intro p m y T hpq f hpg hn hT
    rw [List.append_nil] at hpq
    subst hpq
    refine ⟨m, y, T, ?_, hn, f⟩
    rw [L25_8_eq, binA_lss, Option.bind_some, ifA_dec, if_neg (by omega), K25_8_x0]
  | cons id q ihq =>
    intro p m y T hpq f hpg hn hT
    have hcp : Cl l p := by rw [hpq] at hc; exact cl_pre hc
    have hid : id < l.length := hc.lt id (by rw [hpq]; simp)
    have hplen : p.length < ids.length := by rw [hpq]; simp
    have hnot : id ∉ p := fun h => by
      rw [hpq] at hc
      exact (List.nodup_append.1 hc.nd).2.2 id h id List.mem_cons_self rfl
    have hkp : ∀ k ∈ l[id].kids, k.toNat ∈ p := fun k hk => by
      rw [hpq] at hc
      have e : (p ++ id :: q)[p.length]'(by simp) = id := by simp
      have := hc.cl p.length (by simp) (by rw [e]; exact hid) k (by
        have : ∀ (y : Nat) (hy : y < l.length), y = id → k ∈ l[y].kids := fun y hy ey => by subst ey; exact hk
        exact this _ _ e)
      simpa using this
    have hix : indexAddrA none (NI z o ids) (.int .i64 p.length) = some (.vptr [.int .i64 id]) := by
      rw [NI, idx_IA (by simpa using hplen)]
      congr 3
      simp [hpq]
    have hpml := get_lt hpg
    have up := upd_i hpg (n := id) (by omega) hnot (by omega)
    have st := h0.app f
    obtain ⟨pp, na, TT, st, hFF⟩ := st
    have hs := st.hs
    have hsm : s < m0.length := h0.lt s (by rw [hFF]; simp)
    have hnx := na_idx st.hn hid
    have hkA := kids_IA (st.ok _ (List.getElem_mem hid))
    have hkl : l[id].kids.length ≤ 1000 := by
      rcases st.ok _ (List.getElem_mem hid) with ⟨_, h2, _⟩ | ⟨_, _, _, _, h5⟩
      · rw [h2]; simp
      · omega
    have hb : buildA (.agg [(.int .i64 0), (.lst none true .full []), (.int .i64 0)]) [(0, none, .int .i64 l[id].var), (2, none, .int .i64 l[id].leaf)] = some (.agg [.int .i64 l[id].var, .lst none true .full [], .int .i64 l[id].leaf]) := rfl
    generalize hM : List.set (List.set ((m.set pm (some (.mp (.int .i64) (pe 0 (p ++ [id]))))) ++ [some Ent.resv]) m.length (some (Ent.obj true [.int .i64 0, .lst none true .full [], .int .i64 0]))) m.length (some (Ent.obj true [.int .i64 l[id].var, .lst none true .full [], .int .i64 l[id].leaf])) = M
    have fM : Fr m0 M [] := by
      rw [← hM]
      exact (((f.set _ (.inr (by omega))).snoc _).set _ (.inr (by omega))).set _ (.inr (by omega))
    have lM : M.length = m.length + 1 := by rw [← hM]; simp
    have fM2 : Fr m M [pm] := by
      rw [← hM]
      exact ((((Fr.refl m [pm]).set _ (.inl (by simp))).snoc _).set _ (.inr (by omega))).set _ (.inr (by omega))
    have gc : Mem.get M m.length = some (Ent.obj true [.int .i64 l[id].var, .lst none true .full [], .int .i64 l[id].leaf]) := by rw [← hM]; exact (by simp (disch := (first | assumption | omega | (simp only [List.length_append, List.length_set, List.length_cons, List.length_nil]; first | done | omega))) only [resv1, g_lt, g_eq, g_sne, g_seq]; first | done | rfl)
    have gp : Mem.get M pm = some (.mp (.int .i64) (pe 0 (p ++ [id]))) := by rw [← hM]; exact (by simp (disch := (first | assumption | omega | (simp only [List.length_append, List.length_set, List.length_cons, List.length_nil]; first | done | omega))) only [resv1, g_lt, g_eq, g_sne, g_seq]; first | done | rfl)
    have hkp' : ∀ k ∈ l[id].kids, ∃ t : Nat, k = t ∧ t ∈ p ++ [id] := fun k hk => by
      obtain ⟨t, rfl, _⟩ := kid_lt g hid k hk
      exact ⟨t, rfl, List.mem_append_left _ (by simpa using hkp _ hk)⟩
    obtain ⟨m2, xk, Tk, e13, f2, gc2, gk, hTk⟩ := W25k (x0 := .ptr s 0) (pm := pm) (c := m.length) (p := p ++ [id]) (v := l[id].var) (leaf := l[id].leaf) (kids := l[id].kids) (z := kz l[id]) (o := ko l[id]) (m1 := M) (by simp; omega) (fun y hy => by
      have : y < l.length := by
        rcases List.mem_append.1 hy with h | h
        · exact hcp.lt y h
        · obtain rfl : y = id := by simpa using h
          exact hid
      omega) (by omega) (by omega) (by omega) hkp' hkl gp (.mref pm) y (NI z o ids) (.int .i64 ids.length) (.int .i64 p.length) rfl (K25_8 (finK cfg.P f25.results.toList)) l[id].kids.length 0 M _ [] (by omega) (Fr.refl _ _) gc .none (by simp)
    have hndk : (nd l p id).kids = l[id].kids.map fun k => (((p ++ [id]).idxOf k.toNat : Nat) : Int) := by
      rw [← nd_app hid hkp [id]]
      unfold nd
      rw [getD_at hid]
    have hndv : (nd l p id).var = l[id].var ∧ (nd l p id).leaf = l[id].leaf := by
      unfold nd
      rw [getD_at hid]
      exact ⟨rfl, rfl⟩
    have hok := nd_ok g hll (p := p) (by omega) hid
    obtain ⟨kz', ko', rfl, hstr⟩ := strip_gr gk hndk hok (fun hv => by
      rw [hndv.1] at hv
      have := hkn _ (List.getElem_mem hid) hv
      simpa using this)
    have hbs := bsl_nd l[id].var l[id].leaf kz' ko' ((nd l p id).kids.map (AV.int .i64))
    rw [hstr, ← hndv.1, ← hndv.2] at hbs
    have hbs : buildSliceA (some 3) [.agg [.int .i64 (nd l p id).var, .lst none kz' ko' ((nd l p id).kids.map (AV.int .i64)), .int .i64 (nd l p id).leaf]] = some (.lst (some 3) false .full [(nd l p id).av]) := hbs
    have fm2 : Fr m m2 [pm] := Fr.trans fM2 f2 fun x hx => by
      obtain rfl : x = m.length := by simpa using hx
      exact .inr (Nat.le_refl _)
    have n2 : NR 44 m2 y (mapN l p) T := nr_move hn fun k hk => fm2.get k (nr_lt hn k hk) (by have := hT k hk; simp; omega)
    obtain ⟨y3, m3, T3, ea, n3, f3, gg3⟩ := nr_app n2 (by unfold mapN; rw [List.length_map]; omega) (nd l p id)
    rw [← mapN_snoc hcp hid hkp] at n3
    have f03 : Fr m0 m3 [] := Fr.trans (Fr.trans fM f2 fun x hx => by
      obtain rfl : x = m.length := by simpa using hx
      have := f.len
      exact .inr this) f3 fun x hx => .inr (by have := hT x hx; omega)
    have lm2 := f2.len
    have gp3 : m3.get pm = some (.mp (.int .i64) (pe 0 (p ++ [id]))) := by
      rw [f3.get pm (by omega) (fun h => by have := hT pm h; omega), f2.get pm (by omega) (by simp; omega)]
      exact gp
    obtain ⟨m', y', T', e, k⟩ := ihq (p ++ [id]) m3 y3 T3 (by rw [hpq, List.append_assoc]; rfl) f03 gp3 n3 (fun x hx => by
      rcases gg3 x hx with hh | hh
      · exact hT x hh
      · omega)
    refine ⟨m', y', T', ?_, k⟩
    have ld3 : loadA (some 3) m2 (.ptr m.length 0) = some (.agg [.int .i64 (nd l p id).var, .lst none kz' ko' ((nd l p id).kids.map (AV.int .i64)), .int .i64 (nd l p id).leaf]) := by
      rw [ld_ptr, gc2, hndv.1, hndv.2]; rfl
    have e13 : L25_13 (.ptr s 0) (.mref pm) y (.ptr m.length 0) (NI z o ids) (.int .i64 ids.length) (.int .i64 p.length) (IA (kz l[id]) (ko l[id]) l[id].kids) (.int .i64 l[id].kids.length) (.int .i64 0) M (K25_13 (K25_8 (finK cfg.P f25.results.toList))) = _ := e13
    rw [L25_8_eq, binA_lss, Option.bind_some, ifA_dec, if_pos (by omega)]
    repeat ((with_reducible (first | apply bs | apply bsy)); (focus (first | (simp (disch := (first | assumption | omega | (simp only [List.length_append, List.length_set, List.length_cons, List.length_nil]; first | done | omega))) only [List.all_cons, List.all_nil, Bool.and_true, Bool.and_self, beq_self_eq_true, resv1, List.length_map, ld_v3, ld_v1, binA_eql, binA_neq, binA_lss, binA_leq, binA_gtr, binA_geq, loadA_one, un_not, ld_ptr, st_ptr, putE1, objE_obj, Option.bind_some, cut1, cut3, cut4, nil_ptr, fa_ptr, g_lt, g_eq, g_sne, g_seq, new_n, box_n, List.getElem?_cons_zero, List.getElem?_cons_succ, ex0, ex1, Sh.size, cells_int, aok_int, cells_bool, aok_bool, cells_str, aok_str, cells_lst, aok_lst, cells_ptr, aok_ptr, cells_arr, aok_arr, cells_fn, aok_fn, cells_mref, aok_mref, cells_nilp, aok_nilp, cells_agg, shOk_n, shOk_s, lenA_lst, List.length_cons, List.length_nil, if_true, putAt, List.take_succ_cons, List.take_zero, List.drop_succ_cons, List.drop_zero, List.cons_append, List.nil_append, List.append_nil, Nat.zero_add, Nat.reduceAdd, Nat.reduceLeDiff, Nat.le_refl, List.drop_nil, List.take_nil, List.length_append, List.length_set, hix, up, hs, hnx, f0v, f1v, f2v, l2v, hb, new_s, hkA, len_IA]; first | done | rfl) | rfl)); try dsimp only)
    have en : (newAt (some (List.set m pm (some (Ent.mp (.int .i64) (pe 0 (p ++ [id]))))).length) (reserve (List.set m pm (some (Ent.mp (.int .i64) (pe 0 (p ++ [id]))))) 1) .resv).1 = m.length := by rw [new_s]; simp
    rw [en, hM, e13, K25_13_x2, ld3, Option.bind_some, hbs, Option.bind_some, ea, Option.bind_some, i_add1 (by omega), Option.bind_some]
    rw [List.length_append] at e
    exact e
theorem good_kn (g : GoodL ar l) : kidsNe l := fun n hn hv => by
  obtain ⟨i, hi, rfl⟩ := List.getElem_of_mem hn
  obtain ⟨k, hk, _⟩ := g.dif i hi (by omega)
  exact List.ne_nil_of_mem hk
theorem A25 (h0 : St8 m0 s F arms most l) (g : GoodL ar l) (hll : l.length ≤ 100000) (hm : most ≠ 0) {id : Nat} (hid : id < l.length) : ∃ (m' : Mem) (y : AV) (T : List Nat), AC cfg 25 [.ptr s 0, .int .i64 id] m0 = some (.tup [y, .int .i64 0], m') ∧ NR 44 m' y (mapN l (Vi l id [])) T ∧ Fr m0 m' [] := by
  have e50 := A50 h0 hm
  have e56 := A56 h0 id
  rw [decide_eq_true (by omega)] at e56
  have f1 := Fr.app m0 (some (Ent.mp (.int .i64) [])) []
  obtain ⟨m1, x, T, e61, gx, f2⟩ := A61 (h0.app f1) g hll hid
  have f3 : Fr m0 m1 [] := Fr.trans f1 f2 fun _ h => by cases h
  obtain ⟨c1, _, _⟩ := Vi_facts g id hid [] cl_nil
  obtain ⟨xz, xo, rfl, _⟩ := gr_out gx
  have gp : m1.get m0.length = some (.mp (.int .i64) (pe 0 [])) := by
    rw [f2.get _ (by simp) (by simp)]; exact (by simp (disch := (first | assumption | omega | (simp only [List.length_append, List.length_set, List.length_cons, List.length_nil]; first | done | omega))) only [resv1, g_lt, g_eq, g_sne, g_seq]; first | done | rfl)
  obtain ⟨m', y, T', e, k⟩ := W25 h0 g hll (good_kn g) (pm := m0.length) rfl (z := xz) (o := xo) c1 (Vi l id []) [] m1 (.lst none true .full []) [] rfl f3 gp .none (by simp)
  refine ⟨m', y, T', ?_, k⟩
  have hl : lenA false (.lst none xz xo (((Vi l id []).map Int.ofNat).map (AV.int .i64))) = some (.int .i64 (Vi l id []).length) := by
    rw [lenA_lst]; simp
  rw [T25, e50, Option.bind_some, ifA_f, e56, Option.bind_some, un_not, Option.bind_some, Bool.not_true, ifA_f]
  have e61 : AC cfg 61 [.ptr s 0, .int .i64 id] (newAt none m0 (.mp (.int .i64) [])).2 = _ := e61
  rw [e61, Option.bind_some, hl, Option.bind_some]
  exact e
end
end Go.Ab

/- The reference's list of a table, by value. -/
set_option linter.unusedVariables false
set_option linter.unusedSimpArgs false
set_option linter.unusedSectionVars false
set_option maxRecDepth 100000
namespace Go.Ab
open Go.Proofs Go.Proofs.Tryd

theorem st_new3' {m : Mem} {a b c a' b' c' : AV} (hs : shOk (some 3) (.agg [a', b', c']) = true) : storeA (some 3) (m ++ [some (Ent.obj true [a, b, c])]) (.ptr m.length 0) (.agg [a', b', c']) = some (m ++ [some (Ent.obj true [a', b', c'])]) := by
  rw [st_ptr, g_eq rfl, objE_obj, Option.bind_some]
  simp [putE1, Sh.size, hs, putAt, AV.cells]
theorem nr_appS {e : Nat} {m : Mem} {x : AV} {l : List ND} {T : List Nat} (h : NR e m x l T) (hl : l.length ≤ 100000) (n : ND) : ∃ x' m' T', appA (some m.length) false e (some 3) 40 (m ++ [some Ent.resv]) x (.lst (some 3) false .full [n.av]) = some (x', m') ∧ NR e m' x' (l ++ [n]) T' ∧ Fr m m' T ∧ Gr m T T' := by
  have h2 : (l.length + 1) * 40 ≤ roomA := by unfold roomA; omega
  cases h with
  | none =>
    refine ⟨.lst (some 3) false (.tok m.length e) [n.av], (m ++ [some Ent.resv]).set m.length (some (Ent.tok 1 3)), [m.length], ?_, .some _ [n] (by simp (disch := (first | assumption | omega | (simp only [List.length_append, List.length_set, List.length_cons, List.length_nil]; first | done | omega))) only [resv1, g_lt, g_eq, g_sne, g_seq]; first | done | rfl), (Fr.app m _ _).set _ (.inr (Nat.le_refl _)), fun k hk => ?_⟩
    · have h2 : 40 ≤ roomA := by unfold roomA; omega
      simp [appA, h2, newAt, Sh.size]
    · obtain rfl : k = m.length := by simpa using hk
      exact .inr (Nat.le_refl _)
  | some t es ht =>
    have htl := get_lt ht
    have ht' : Mem.get (m ++ [some Ent.resv]) t = some (.tok l.length 3) := by rw [g_lt htl]; exact ht
    refine ⟨.lst (some 3) false (.tok t e) (l.map ND.av ++ [n.av]), (m ++ [some Ent.resv]).set t (some (Ent.tok (l.length + 1) 3)), [t], ?_, ?_, (Fr.app m _ [t]).set _ (.inl (by simp)), Gr.refl _ _⟩
    · simp [appA, ht', Sh.size, h2]
    · have e3 : l.map ND.av ++ [n.av] = (l ++ [n]).map ND.av := by simp
      rw [e3]
      refine .some t (l ++ [n]) ?_
      rw [g_seq rfl (by simp; omega), List.length_append]; rfl
theorem fz_node (a b : Int) (z : Bool) (o : Own) (ks : List AV) : Fz (.agg [.int .i64 a, .lst none z o ks, .int .i64 b]) (.agg [.int .i64 a, stripA (.lst none z o ks), .int .i64 b]) := fun m => by cases o <;> rfl
theorem nr_lst {e : Nat} {m : Mem} {x : AV} {l : List ND} {T : List Nat} (h : NR e m x l T) : ∃ sh z o es, x = .lst sh z o es := by
  cases h with
  | none => exact ⟨_, _, _, _, rfl⟩
  | some t l ht => exact ⟨_, _, _, _, rfl⟩
/-- The search, and the putting behind. -/
theorem A70t {m : Mem} {b q : Nat} {arms x : AV} {L : List ND} {T : List Nat} {n : ND} {z : Bool} {o : Own} (hbg : m.get b = some (.obj true [arms, x])) (h : NR 39 m x L T) (hbT : b ∉ T) (hqb : q ≠ b) (hqT : q ∉ T) (hq : m.get q = some (.obj true [.int .i64 n.var, .lst none z o (n.kids.map (AV.int .i64)), .int .i64 n.leaf]))
    (hk : stripA (.lst none z o (n.kids.map (AV.int .i64))) = kidsA n) (hn : n.ok) (hL : ∀ y ∈ L, y.ok) (hl : L.length ≤ 100000) :
    ∃ (m' : Mem) (x' : AV) (T' : List Nat), L70_18 (.ptr b 0) (.ptr q 0) x (.int .i64 L.length) (.int .i64 0) m (K70_18 (finK cfg.P f70.results.toList)) = some (.int .i64 (L.idxOf n : Nat), m') ∧ m'.get b = some (.obj true [arms, x']) ∧ NR 39 m' x' (ins L n) T' ∧ Fr m m' (b :: T) ∧ Gr m T T' ∧ b ∉ T' := by
  have hbl := get_lt hbg
  have hql := get_lt hq
  have hav : AV.agg [.int .i64 n.var, kidsA n, .int .i64 n.leaf] = n.av := rfl
  have W : ∀ (j i : Nat) (m1 : Mem), i + j = L.length → (∀ t (ht : t < L.length), t < i → L[t] ≠ n) → Fr m m1 [] →
      ∃ m2, L70_18 (.ptr b 0) (.ptr q 0) x (.int .i64 L.length) (.int .i64 i) m1 (K70_18 (finK cfg.P f70.results.toList)) = (if n ∈ L then some (.int .i64 (L.idxOf n : Nat), m2) else K70_18 (finK cfg.P f70.results.toList) (.exit 4) (O70_18 (.ptr b 0) (.ptr q 0) m2)) ∧ Fr m m2 [] := by
    intro j
    induction j with
    | zero =>
      intro i m1 hi hne f
      have hnm : n ∉ L := fun hm => by
        obtain ⟨t, ht, e⟩ := List.getElem_of_mem hm
        exact hne t ht (by omega) e
      refine ⟨m1, ?_, f⟩
      rw [L70_18_eq, binA_lss, Option.bind_some, ifA_dec, if_neg (by omega), if_neg hnm]
    | succ j ih =>
      intro i m1 hi hne f
      have hil : i < L.length := by omega
      have hidx := nr_idx h hil
      have bxi := box_av L[i] m1 (get_len m1)
      have f2 : Fr m (m1 ++ [some (Ent.obj true [.int .i64 L[i].var, kidsA L[i], .int .i64 L[i].leaf])]) [] := f.snoc _
      have gq : Mem.get (m1 ++ [some (Ent.obj true [.int .i64 L[i].var, kidsA L[i], .int .i64 L[i].leaf])]) q = _ := (f2.get q hql (by simp)).trans hq
      have ld1 : loadA (some 3) (m1 ++ [some (Ent.obj true [.int .i64 L[i].var, kidsA L[i], .int .i64 L[i].leaf])]) (.ptr q 0) = some (.agg [.int .i64 n.var, .lst none z o (n.kids.map (AV.int .i64)), .int .i64 n.leaf]) := by
        rw [ld_ptr, gq]; rfl
      have ld2 : loadA (some 3) (m1 ++ [some (Ent.obj true [.int .i64 L[i].var, kidsA L[i], .int .i64 L[i].leaf])]) (.ptr m1.length 0) = some L[i].av := by
        rw [ld_ptr, g_eq rfl]; rfl
      have p60 : pcall (AP cfg) none (m1 ++ [some (Ent.obj true [.int .i64 L[i].var, kidsA L[i], .int .i64 L[i].leaf])]) 60 [.agg [.int .i64 n.var, .lst none z o (n.kids.map (AV.int .i64)), .int .i64 n.leaf], L[i].av] = some (.bool (decide (n = L[i])), m1 ++ [some (Ent.obj true [.int .i64 L[i].var, kidsA L[i], .int .i64 L[i].leaf])]) := by
        rw [pcall2 (fz_node _ _ _ _ _) (fz_av _), hk, hav, V60 hn (hL _ (List.getElem_mem hil))]; rfl
      have e0 : L70_18 (.ptr b 0) (.ptr q 0) x (.int .i64 L.length) (.int .i64 i) m1 (K70_18 (finK cfg.P f70.results.toList)) = ifA (.bool (decide (n = L[i]))) (some (.int .i64 i, m1 ++ [some (Ent.obj true [.int .i64 L[i].var, kidsA L[i], .int .i64 L[i].leaf])])) (L70_18 (.ptr b 0) (.ptr q 0) x (.int .i64 L.length) (.int .i64 (i + 1 : Nat)) (m1 ++ [some (Ent.obj true [.int .i64 L[i].var, kidsA L[i], .int .i64 L[i].leaf])]) (K70_18 (finK cfg.P f70.results.toList))) := by
        rw [L70_18_eq, binA_lss, Option.bind_some, ifA_dec, if_pos (by omega), hidx, Option.bind_some, ld_v3, Option.bind_some, new_n, new_n]
        dsimp only
        rw [bxi, Option.bind_some, ld1, Option.bind_some, ld2, Option.bind_some, p60, Option.bind_some, i_add1 (by omega), Option.bind_some, K70_18_ret]
      rw [e0, ifA_dec]
      by_cases he : n = L[i]
      · have hm : n ∈ L := he ▸ List.getElem_mem hil
        have hix : L.idxOf n = i := idxOf_first hil he.symm hne
        refine ⟨_, ?_, f2⟩
        rw [if_pos he, if_pos hm, hix]
      · rw [if_neg he]
        exact ih (i + 1) _ (by omega) (fun t ht hti => by
          rcases Nat.lt_or_ge t i with hh | hh
          · exact hne t ht hh
          · obtain rfl : t = i := by omega
            exact fun e => he e.symm) f2
  obtain ⟨m2, e2, f2⟩ := W L.length 0 m (by omega) (fun _ _ h => by omega) (Fr.refl _ _)
  have e2 : L70_18 (.ptr b 0) (.ptr q 0) x (.int .i64 L.length) (.int .i64 0) m (K70_18 (finK cfg.P f70.results.toList)) = _ := e2
  rw [e2]
  have gb2 : m2.get b = some (.obj true [arms, x]) := (f2.get b hbl (by simp)).trans hbg
  by_cases hm : n ∈ L
  · rw [if_pos hm, ins, if_pos hm]
    exact ⟨m2, x, T, rfl, gb2, nr_move h fun k hk => f2.get k (nr_lt h k hk) (by simp), f2.mono (by simp), Gr.refl _ _, hbT⟩
  · rw [if_neg hm, ins, if_neg hm, idxOf_not hm]
    have gq2 : Mem.get m2 q = some (.obj true [.int .i64 n.var, .lst none z o (n.kids.map (AV.int .i64)), .int .i64 n.leaf]) := (f2.get q hql (by simp)).trans hq
    have h2 : NR 39 m2 x L T := nr_move h fun k hk => f2.get k (nr_lt h k hk) (by simp)
    obtain ⟨x3, m3, T3, ea, n3, f3, gg3⟩ := nr_appS h2 hl n
    have hbs := bsl_nd n.var n.leaf z o (n.kids.map (AV.int .i64))
    rw [hk, hav] at hbs
    have hb2l := get_lt gb2
    have hq2l := get_lt gq2
    have gb3 : m3.get b = some (.obj true [arms, x]) := (f3.get b hb2l hbT).trans gb2
    have hb3l := get_lt gb3
    have ldx : loadA none (reserve m2 1) (.ptr b (0 + 1)) = some x := by rw [resv1, ld_ptr, g_lt hb2l, gb2]; rfl
    have ldq : loadA (some 3) (reserve m2 1) (.ptr q 0) = some (.agg [.int .i64 n.var, .lst none z o (n.kids.map (AV.int .i64)), .int .i64 n.leaf]) := by rw [resv1, ld_ptr, g_lt hq2l, gq2]; rfl
    obtain ⟨sh3, z3, o3, es3, rfl⟩ := nr_lst n3
    have st : storeA none m3 (.ptr b (0 + 1)) (.lst sh3 z3 o3 es3) = some (m3.set b (some (.obj true [arms, .lst sh3 z3 o3 es3]))) := by
      rw [st_ptr, gb3, objE_obj, Option.bind_some]; rfl
    have ld4 : loadA none (m3.set b (some (.obj true [arms, .lst sh3 z3 o3 es3]))) (.ptr b (0 + 1)) = some (.lst sh3 z3 o3 es3) := by
      rw [ld_ptr, g_seq rfl hb3l]; rfl
    have ln := nr_len n3
    have hbT3 : b ∉ T3 := fun hh => by
      rcases gg3 b hh with h4 | h4
      · exact hbT h4
      · omega
    refine ⟨m3.set b (some (.obj true [arms, .lst sh3 z3 o3 es3])), .lst sh3 z3 o3 es3, T3, ?_, g_seq rfl hb3l, nr_move n3 fun k hk => g_sne (fun e => hbT3 (e ▸ hk)), ?_, ?_, hbT3⟩
    · rw [resv1] at ldx ldq
      rw [K70_18_x4, nil_ptr, Option.bind_some, fa_ptr, Option.bind_some, resv1, ldx, Option.bind_some, ldq, Option.bind_some, hbs, Option.bind_some, ea, Option.bind_some, Option.bind_some, fa_ptr, Option.bind_some, st, Option.bind_some, Option.bind_some, fa_ptr, Option.bind_some, ld4, Option.bind_some, ln, Option.bind_some, List.length_append, i_sub1 (by simp) (by simp; omega), Option.bind_some]
      simp
    · exact ((Fr.trans (f2.mono (F' := b :: T) (by simp)) f3 fun x hx => .inl (by simp [hx])).set _ (.inl (by simp)))
    · intro k hk
      rcases gg3 k hk with h4 | h4
      · exact .inl h4
      · have := f2.len; exact .inr (by omega)
end Go.Ab

/- The reference's list of a table, by value: place. -/
set_option linter.unusedVariables false
set_option linter.unusedSimpArgs false
set_option linter.unusedSectionVars false
set_option maxRecDepth 100000
namespace Go.Ab
open Go.Proofs Go.Proofs.Tryd

theorem gr_tok {e : Nat} {m : Mem} {x : AV} {l : List AV} {T : List Nat} (h : GR e m x l T) : ∀ k ∈ T, ∃ n, m.get k = some (.tok n 1) := by
  cases h with
  | none => simp
  | some t l ht _ =>
    intro k hk
    obtain rfl : k = t := by simpa using hk
    exact ⟨_, ht⟩
/-- What place does. -/
def At70 (l : List ND) (ar : List Int) (za : Bool) (oa : Own) (b v : Nat) : Prop := ∀ (m : Mem) (z : Bool) (o : Own) (part : List Int) (id : Nat) (out : List Nat) (x : AV) (T : List Nat), m.get b = some (.obj true [IA za oa ar, x]) → NR 39 m x (mapN l out) T → b ∉ T → Cl l out → TabV ar l id v part →
  ∃ (m' : Mem) (x' : AV) (T' : List Nat), AC cfg 70 [.ptr b 0, .int .i64 v, IA z o part] m = some (.int .i64 ((Vi l id out).idxOf id : Nat), m') ∧ m'.get b = some (.obj true [IA za oa ar, x']) ∧ NR 39 m' x' (mapN l (Vi l id out)) T' ∧ Fr m m' (b :: T) ∧ Gr m T T' ∧ b ∉ T'
section
variable {l : List ND} {ar : List Int} {za : Bool} {oa : Own} {b v : Nat}
/-- Are all parts the same? -/
theorem W70f {m : Mem} {x : AV} (hbg : m.get b = some (.obj true [IA za oa ar, x])) {z z1 : Bool} {o o1 : Own} {part first : List Int} {a n : Nat} (hv : v < ar.length) (ha : ar[v] = (a : Int)) (ha64 : a ≤ 64) (hp : part.length = a * n) (hpl : part.length ≤ 300) (hf : first.length ≤ 300) (x7 : AV) (K : Ex → St → Option (AV × Mem)) : ∀ (j k : Nat) (fr : Bool), k + j = a →
    ∃ fr' : Bool, L70_7 (.ptr b 0) (.int .i64 v) (IA z o part) x7 (.int .i64 n) (IA z1 o1 first) (.bool fr) (.int .i64 k) m K = K (.exit 0) (O70_7 (.ptr b 0) (.int .i64 v) (IA z o part) x7 (.int .i64 n) (IA z1 o1 first) (.bool fr') m) ∧ (fr' = true ↔ fr = true ∧ ∀ q, k ≤ q → q < a → _root_.Go.Ab.part part n q = first) := by
  have hix : indexAddrA none (IA za oa ar) (.int .i64 v) = some (.vptr [.int .i64 a]) := by rw [idx_IA hv, ha]
  have ldx : loadA none m (.ptr b (0 + 0)) = some (IA za oa ar) := by rw [ld_ptr, hbg]; rfl
  intro j
  induction j with
  | zero =>
    intro k fr hk
    refine ⟨fr, ?_, ⟨fun h => ⟨h, fun q h1 h2 => by omega⟩, fun h => h.1⟩⟩
    rw [L70_7_eq, nil_ptr, Option.bind_some, fa_ptr, Option.bind_some, ldx, Option.bind_some, hix, Option.bind_some, loadA_one, Option.bind_some, n_lss, Option.bind_some, ifA_dec, if_neg (by omega)]
  | succ j ih =>
    intro k fr hk
    have hka : k < a := by omega
    have hkn : (k + 1) * n ≤ part.length := by rw [hp]; exact Nat.mul_le_mul_right _ (by omega)
    have hkn0 : k * n ≤ (k + 1) * n := Nat.mul_le_mul_right _ (by omega)
    have hpk := part_len hp hka
    have hn0 : n ≤ (k + 1) * n := Nat.le_mul_of_pos_left _ (by omega)
    cases fr with
    | false =>
      obtain ⟨fr', e, h⟩ := ih (k + 1) false (by omega)
      refine ⟨fr', ?_, ?_⟩
      · rw [L70_7_eq, nil_ptr, Option.bind_some, fa_ptr, Option.bind_some, ldx, Option.bind_some, hix, Option.bind_some, loadA_one, Option.bind_some, n_lss, Option.bind_some, ifA_dec, if_pos hka, ifA_f, i_add1 (by omega), Option.bind_some]
        exact e
      · rw [h]; simp
    | true =>
      obtain ⟨fr', e, h⟩ := ih (k + 1) (decide (_root_.Go.Ab.part part n k = first)) (by omega)
      refine ⟨fr', ?_, ?_⟩
      · rw [L70_7_eq, nil_ptr, Option.bind_some, fa_ptr, Option.bind_some, ldx, Option.bind_some, hix, Option.bind_some, loadA_one, Option.bind_some, n_lss, Option.bind_some, ifA_dec, if_pos hka, ifA_t, n_mul (by omega), Option.bind_some, i_add1 (by omega), Option.bind_some, n_mul (by omega), Option.bind_some, cut_IA z o part .i64 hkn, Option.bind_some, pc79 z z1 .no o1 _ first (by omega) m, Option.bind_some, Option.bind_some]
        exact e
      · rw [h, decide_eq_true_iff]
        constructor
        · rintro ⟨h1, h2⟩
          refine ⟨rfl, fun q hq1 hq2 => ?_⟩
          by_cases hqk : q = k
          · subst hqk; exact h1
          · exact h2 q (by omega) hq2
        · rintro ⟨_, h2⟩
          exact ⟨h2 k (Nat.le_refl _) hka, fun q hq1 hq2 => h2 q (by omega) hq2⟩
/-- The kids are placed. -/
theorem W70k (g : GoodL ar l) (h1 : ∀ x ∈ ar, 1 ≤ x ∧ x ≤ 64) (hll : l.length ≤ 100000) (hv : v < ar.length) (hal : ar.length ≤ 16) {a n : Nat} (ha : ar[v] = (a : Int)) (hn : n = prodF (ar.drop (v + 1))) {id : Nat} (hid : id < l.length) (hvar : l[id].var = v) {part : List Int} (htab : TabV ar l id v part) (hpl : part.length ≤ 300) (ih : At70 l ar za oa b (v + 1)) {z : Bool} {o : Own}
    {m0 : Mem} {T0 : List Nat} {q : Nat} (hq0 : m0.length ≤ q) (hbq : b < m0.length) (hT0 : ∀ y ∈ T0, y < m0.length) : ∀ (j k : Nat) (m : Mem) (out : List Nat) (x xk : AV) (T Tk : List Nat), k + j = a → m.get b = some (.obj true [IA za oa ar, x]) → NR 39 m x (mapN l out) T → b ∉ T → Cl l out → Fr m0 m (b :: T0) → Gr m0 T0 T → q ∉ T → (∀ i ∈ l[id].kids.take k, i.toNat ∈ out) →
      m.get q = some (.obj true [.int .i64 v, xk, .int .i64 0]) → GR 3 m xk (((l[id].kids.take k).map fun i => ((out.idxOf i.toNat : Nat) : Int)).map (AV.int .i64)) Tk → (∀ y ∈ Tk, m0.length ≤ y ∧ y ∉ T) →
      ∃ (m' : Mem) (x' xk' : AV) (T' Tk' : List Nat), L70_14 (.ptr b 0) (.int .i64 v) (IA z o part) (.ptr q 0) (.int .i64 n) (.int .i64 k) m (K70_14 (finK cfg.P f70.results.toList)) = K70_14 (finK cfg.P f70.results.toList) (.exit 2) (O70_14 (.ptr b 0) (.ptr q 0) m') ∧
        m'.get b = some (.obj true [IA za oa ar, x']) ∧ NR 39 m' x' (mapN l (Vis l (l[id].kids.drop k) out)) T' ∧ b ∉ T' ∧ Fr m0 m' (b :: T0) ∧ Gr m0 T0 T' ∧ q ∉ T' ∧ m'.get q = some (.obj true [.int .i64 v, xk', .int .i64 0]) ∧ GR 3 m' xk' ((l[id].kids.map fun i => (((Vis l (l[id].kids.drop k) out).idxOf i.toNat : Nat) : Int)).map (AV.int .i64)) Tk' := by
  have hget : ar.getD v 0 = (a : Int) := by rw [List.getD_eq_getElem?_getD, List.getElem?_eq_getElem hv, Option.getD_some, ha]
  have hab := h1 _ (List.getElem_mem hv)
  have hkl : l[id].kids.length = a := by
    have := (g.var id hid (by omega)).2
    rw [hvar, Int.toNat_natCast, hget] at this
    omega
  have hp : part.length = a * n := by
    rw [htab.len, prod_step hv, hget, hn]; rfl
  have hix : indexAddrA none (IA za oa ar) (.int .i64 v) = some (.vptr [.int .i64 a]) := by rw [idx_IA hv, ha]
  intro j
  induction j with
  | zero =>
    intro k m out x xk T Tk hk hbg hnr hbT hc f gr hqT hkin hqg hgk hTk
    have hd : l[id].kids.drop k = [] := List.drop_eq_nil_of_le (by omega)
    have ht : l[id].kids.take k = l[id].kids := List.take_of_length_le (by omega)
    rw [ht] at hgk
    have ldx : loadA none m (.ptr b (0 + 0)) = some (IA za oa ar) := by rw [ld_ptr, hbg]; rfl
    refine ⟨m, x, xk, T, Tk, ?_, hbg, by rw [hd]; exact hnr, hbT, f, gr, hqT, hqg, by rw [hd]; exact hgk⟩
    rw [L70_14_eq, nil_ptr, Option.bind_some, fa_ptr, Option.bind_some, ldx, Option.bind_some, hix, Option.bind_some, loadA_one, Option.bind_some, n_lss, Option.bind_some, ifA_dec, if_neg (by omega)]
  | succ j ihj =>
    intro k m out x xk T Tk hk hbg hnr hbT hc f gr hqT hkin hqg hgk hTk
    have hka : k < a := by omega
    have hkk : k < l[id].kids.length := by omega
    have hkn : (k + 1) * n ≤ part.length := by rw [hp]; exact Nat.mul_le_mul_right _ (by omega)
    have hkn0 : k * n ≤ (k + 1) * n := Nat.mul_le_mul_right _ (by omega)
    have ldx : loadA none m (.ptr b (0 + 0)) = some (IA za oa ar) := by rw [ld_ptr, hbg]; rfl
    obtain ⟨t, et, ht⟩ := kid_lt g hid _ (List.getElem_mem hkk)
    have htk := tab_kid g (fun x hx => (h1 x hx).1) hv htab hid hvar (k := k) (by rw [hget]; omega)
    have eg : l[id].kids.getD k 0 = (t : Int) := by rw [List.getD_eq_getElem?_getD, List.getElem?_eq_getElem hkk, Option.getD_some, et]
    rw [eg, Int.toNat_natCast, ← hn] at htk
    have hbl := get_lt hbg
    have hql := get_lt hqg
    obtain ⟨m1, x1, T1, e70, gb1, n1, f1, gr1, hbT1⟩ := ih m z .no _ t out x T hbg hnr hbT hc htk
    obtain ⟨c1, c2, r, c3, c4⟩ := Vi_facts g t htk.lt out hc
    have hqb : q ≠ b := by omega
    have hq1 : m1.get q = some (.obj true [.int .i64 v, xk, .int .i64 0]) := (f1.get q hql (by simp; exact ⟨hqb, hqT⟩)).trans hqg
    have hqT1 : q ∉ T1 := fun hh => by
      rcases gr1 q hh with h4 | h4
      · exact hqT h4
      · omega
    have hgk1 : GR 3 m1 xk (((l[id].kids.take k).map fun i => (((Vi l t out).idxOf i.toNat : Nat) : Int)).map (AV.int .i64)) Tk := by
      have e : ((l[id].kids.take k).map fun i => (((Vi l t out).idxOf i.toNat : Nat) : Int)) = ((l[id].kids.take k).map fun i => ((out.idxOf i.toNat : Nat) : Int)) := List.map_congr_left fun i hi => by
        rw [c3, List.idxOf_append, if_pos (hkin i hi)]
      rw [e]
      exact gr_move hgk fun y hy => f1.get y (gr_lt hgk y hy) (by
        simp only [List.mem_cons, not_or]
        exact ⟨fun e => by have := (hTk y hy).1; omega, (hTk y hy).2⟩)
    obtain ⟨x2, m2, Tk2, ea, g2, f2, gg2⟩ := gr_app (b := 8) hgk1 (by simp; omega) (by omega) (.int .i64 ((Vi l t out).idxOf t : Nat))
    have ntk : ∀ y, y ∉ Tk → y < m1.length → m2.get y = m1.get y := fun y h h' => f2.get y h' h
    have hb1l := get_lt gb1
    have hq1l := get_lt hq1
    have hTkb : b ∉ Tk := fun h => by have := (hTk b h).1; omega
    have hTkq : q ∉ Tk := fun h => by
      have h2 := gr_lt hgk q h
      obtain ⟨k', ht'⟩ := gr_tok hgk q h
      rw [hqg] at ht'; cases ht'
    have gb2 : m2.get b = some (.obj true [IA za oa ar, x1]) := (ntk b hTkb hb1l).trans gb1
    have gq2 : m2.get q = some (.obj true [.int .i64 v, xk, .int .i64 0]) := (ntk q hTkq hq1l).trans hq1
    have hTkT1 : ∀ y ∈ Tk, y ∉ T1 := fun y hy hh => by
      rcases gr1 y hh with h4 | h4
      · exact (hTk y hy).2 h4
      · have := gr_lt hgk y hy; omega
    have n2 : NR 39 m2 x1 (mapN l (Vi l t out)) T1 := nr_move n1 fun y hy => ntk y (fun h => hTkT1 y h hy) (nr_lt n1 y hy)
    have hq2l := get_lt gq2
    obtain ⟨xz, xo, rfl, _⟩ := gr_out g2
    have st : storeA none m2 (.ptr q (0 + 1)) (.lst none xz xo (((l[id].kids.take k).map fun i => (((Vi l t out).idxOf i.toNat : Nat) : Int)).map (AV.int .i64) ++ [.int .i64 ((Vi l t out).idxOf t : Nat)])) = some (m2.set q (some (.obj true [.int .i64 v, .lst none xz xo (((l[id].kids.take k).map fun i => (((Vi l t out).idxOf i.toNat : Nat) : Int)).map (AV.int .i64) ++ [.int .i64 ((Vi l t out).idxOf t : Nat)]), .int .i64 0]))) := by
      rw [st_ptr, gq2, objE_obj, Option.bind_some]; rfl
    have ek : (((l[id].kids.take k).map fun i => (((Vi l t out).idxOf i.toNat : Nat) : Int)).map (AV.int .i64) ++ [.int .i64 ((Vi l t out).idxOf t : Nat)]) = ((l[id].kids.take (k + 1)).map fun i => (((Vi l t out).idxOf i.toNat : Nat) : Int)).map (AV.int .i64) := by
      rw [List.take_succ_eq_append_getElem hkk, List.map_append, List.map_append, et]; rfl
    have hnq : ∀ y ∈ Tk2, y ≠ q := fun y hy e => by
      rcases gg2 y hy with h4 | h4
      · exact hTkq (e ▸ h4)
      · omega
    have ed : Vis l (l[id].kids.drop k) out = Vis l (l[id].kids.drop (k + 1)) (Vi l t out) := by
      rw [List.drop_eq_getElem_cons hkk, Vis_cons, et, Int.toNat_natCast]
    have F1 : Fr m0 m1 (b :: T0) := Fr.trans f f1 fun y hy => by
      rcases List.mem_cons.1 hy with rfl | hy
      · exact .inl (by simp)
      · rcases gr y hy with h4 | h4
        · exact .inl (by simp [h4])
        · exact .inr h4
    have F2 : Fr m0 m2 (b :: T0) := Fr.trans F1 f2 fun y hy => .inr (hTk y hy).1
    obtain ⟨m', x', xk', T', Tk', e, k1, k2, k3, k4, k5, k6, k7, k8⟩ := ihj (k + 1) (m2.set q (some (.obj true [.int .i64 v, .lst none xz xo (((l[id].kids.take k).map fun i => (((Vi l t out).idxOf i.toNat : Nat) : Int)).map (AV.int .i64) ++ [.int .i64 ((Vi l t out).idxOf t : Nat)]), .int .i64 0]))) (Vi l t out) x1 _ T1 Tk2 (by omega)
      (by rw [g_sne (fun e => hqb e.symm)]; exact gb2) (nr_move n2 fun y hy => g_sne (fun e => hqT1 (e ▸ hy))) hbT1 c1 (F2.set _ (.inr hq0)) (Gr.trans f.len gr gr1) hqT1 (fun i hi => by
        rw [List.take_succ_eq_append_getElem hkk] at hi
        rcases List.mem_append.1 hi with hi | hi
        · rw [c3]; exact List.mem_append_left _ (hkin i hi)
        · obtain rfl : i = l[id].kids[k] := by simpa using hi
          rw [et, Int.toNat_natCast]; exact c2) (g_seq rfl hq2l) (by
        rw [← ek]
        exact gr_move g2 fun y hy => g_sne (hnq y hy)) (fun y hy => by
        have l1 := f1.len; have l0 := f.len
        rcases gg2 y hy with h4 | h4
        · exact ⟨(hTk y h4).1, hTkT1 y h4⟩
        · refine ⟨by omega, fun hh => ?_⟩
          have := nr_lt n1 y hh
          omega)
    refine ⟨m', x', xk', T', Tk', ?_, k1, by rw [ed]; exact k2, k3, k4, k5, k6, k7, by rw [ed]; exact k8⟩
    have ldk : loadA none m (.ptr q (0 + 1)) = some xk := by rw [ld_ptr, hqg]; rfl
    have ldk1 : loadA none m1 (.ptr q (0 + 1)) = some xk := by rw [ld_ptr, hq1]; rfl
    rw [L70_14_eq, nil_ptr, Option.bind_some, fa_ptr, Option.bind_some, ldx, Option.bind_some, hix, Option.bind_some, loadA_one, Option.bind_some, n_lss, Option.bind_some, ifA_dec, if_pos hka, fa_ptr, Option.bind_some, ldk, Option.bind_some, i_add1 (by omega), Option.bind_some, n_mul (by omega), Option.bind_some, i_add1 (by omega), Option.bind_some, n_mul (by omega), Option.bind_some, cut_IA z o part .i64 hkn, Option.bind_some, e70, Option.bind_some]
    rw [ifP_pos (by simp only [ldk1, Option.bind_some]), build_int, Option.bind_some, ea, Option.bind_some, Option.bind_some, st, Option.bind_some, Option.bind_some]
    exact e
theorem mapN_ok (g : GoodL ar l) (hll : l.length ≤ 100000) {out : List Nat} (hc : Cl l out) : ∀ y ∈ mapN l out, y.ok := fun y hy => by
  obtain ⟨i, hi, rfl⟩ := List.mem_map.1 hy
  have := nodup_lt _ _ hc.nd hc.lt
  exact nd_ok g hll (by omega) (hc.lt i hi)
theorem A70s (g : GoodL ar l) (h1 : ∀ x ∈ ar, 1 ≤ x ∧ x ≤ 64) (hll : l.length ≤ 100000) (hal : ar.length ≤ 16) (hv : v ≤ ar.length) (hpv : prodF (ar.drop v) ≤ 300) (ih : v < ar.length → At70 l ar za oa b (v + 1)) : At70 l ar za oa b v := by
  intro m z o part id out x T hbg hnr hbT hc htab
  have h1' : ∀ x ∈ ar, 1 ≤ x := fun x hx => (h1 x hx).1
  have hid := htab.lt
  have hpp : 1 ≤ prodF (ar.drop v) := prod_pos fun x hx => h1' x (List.drop_subset _ _ hx)
  have hpl := htab.len
  obtain ⟨c0, ct, ec⟩ := List.exists_cons_of_ne_nil (show part ≠ [] from fun e => by rw [e] at hpl; simp at hpl; omega)
  have hbl := get_lt hbg
  have i0 : indexAddrA none (IA z o part) (.int .i64 0) = some (.vptr [.int .i64 c0]) := by rw [ec]; exact idx_IA0 (by simp)
  have hb : buildA (.agg [(.int .i64 0), (.lst none true .full []), (.int .i64 0)]) [(0, none, (.int .i64 (-1))), (2, none, .int .i64 c0)] = some (.agg [.int .i64 (-1), .lst none true .full [], .int .i64 c0]) := rfl
  have sn := st_new3' (m := m) (a := .int .i64 0) (b := .lst none true .full []) (c := .int .i64 0) (a' := .int .i64 (-1)) (b' := .lst none true .full []) (c' := .int .i64 c0) rfl
  have f4 : Fr m (m ++ [some (Ent.obj true [.int .i64 (-1), .lst none true .full [], .int .i64 c0])]) [] := Fr.app m _ _
  generalize hm4 : m ++ [some (Ent.obj true [.int .i64 (-1), .lst none true .full [], .int .i64 c0])] = m4 at sn f4
  have gq : m4.get m.length = some (Ent.obj true [.int .i64 (-1), .lst none true .full [], .int .i64 c0]) := by rw [← hm4]; exact (by simp (disch := (first | assumption | omega | (simp only [List.length_append, List.length_set, List.length_cons, List.length_nil]; first | done | omega))) only [resv1, g_lt, g_eq, g_sne, g_seq]; first | done | rfl)
  have l4 : m4.length = m.length + 1 := by rw [← hm4]; simp
  have gb4 : m4.get b = some (.obj true [IA za oa ar, x]) := (f4.get b hbl (by simp)).trans hbg
  have n4 : NR 39 m4 x (mapN l out) T := nr_move hnr fun k hk => f4.get k (nr_lt hnr k hk) (by simp)
  have hqT : m.length ∉ T := fun h => by have := nr_lt hnr _ h; omega
  have hol : out.length ≤ l.length := nodup_lt _ _ hc.nd hc.lt
  have p78 := pc78 z o part (by rw [ec]; simp) (by omega) m4
  have e0 : AC cfg 70 [.ptr b 0, .int .i64 v, IA z o part] m = _ := T70 _ _ _ m
  rw [i0, Option.bind_some, loadA_one, Option.bind_some, hb, Option.bind_some, new_n, new_n] at e0
  dsimp only at e0
  rw [sn, Option.bind_some, p78, Option.bind_some, un_not, Option.bind_some, ec, List.headD_cons, ← ec] at e0
  have ldx0 : loadA none m4 (.ptr b (0 + 0)) = some (IA za oa ar) := by rw [ld_ptr, gb4]; rfl
  have ldx1 : loadA none m4 (.ptr b (0 + 1)) = some x := by rw [ld_ptr, gb4]; rfl
  by_cases hall : (part.all fun k => k == c0) = true
  · -- a leaf
    rw [hall, Bool.not_true, ifA_f, nil_ptr, Option.bind_some, fa_ptr, Option.bind_some, ldx1, Option.bind_some, nr_len hnr, Option.bind_some] at e0
    have hleaf := const_leaf g h1' hv htab (c := c0) (fun y hy => by simpa using List.all_eq_true.1 hall y hy)
    have hnd : nd l out id = leafN c0 := by
      unfold nd
      rw [hleaf]; rfl
    rw [getD_at hid] at hleaf
    have hkids : l[id].kids = [] := by rw [hleaf]; rfl
    have hok := nd_ok g hll (p := out) (by omega) hid
    rw [hnd] at hok
    obtain ⟨m5, x5, T5, e5, k1, k2, k3, k4, k5⟩ := A70t (n := leafN c0) (z := true) (o := .full) gb4 n4 hbT (show m.length ≠ b by omega) hqT gq rfl hok (mapN_ok g hll hc) (by unfold mapN; rw [List.length_map]; omega)
    have pr := put_ref g hc hid (by rw [hkids]; simp)
    have eV : Vi l id out = if id ∈ out then out else out ++ [id] := by rw [Vi_fold g hid hc, hkids, Vis_nil]
    rw [hnd, ← eV] at pr
    refine ⟨m5, x5, T5, ?_, k1, by rw [← pr.1]; exact k2, Fr.trans (f4.mono (by simp)) k3 fun y hy => .inl hy, Gr.trans f4.len (Gr.refl _ _) k4, k5⟩
    rw [e0, e5, pr.2]
  · rw [Bool.not_eq_true] at hall
    have hvl : v < ar.length := by
      refine Decidable.byContradiction fun hn => ?_
      have : ar.drop v = [] := List.drop_eq_nil_of_le (by omega)
      rw [this] at hpl
      have hpl : part.length = 1 := hpl
      rw [ec] at hpl hall
      have : ct = [] := by simpa using hpl
      rw [this] at hall
      simp at hall
    have hab := h1 _ (List.getElem_mem hvl)
    obtain ⟨a, ha⟩ := Int.eq_ofNat_of_zero_le (by omega : 0 ≤ ar[v])
    have hget : ar.getD v 0 = (a : Int) := by rw [List.getD_eq_getElem?_getD, List.getElem?_eq_getElem hvl, Option.getD_some, ha]
    have hix : indexAddrA none (IA za oa ar) (.int .i64 v) = some (.vptr [.int .i64 a]) := by rw [idx_IA hvl, ha]
    have hps : prodF (ar.drop v) = a * prodF (ar.drop (v + 1)) := by rw [prod_step hvl, hget]; rfl
    have hn0 : 1 ≤ prodF (ar.drop (v + 1)) := prod_pos fun x hx => h1' x (List.drop_subset _ _ hx)
    have hta : part.length = a * prodF (ar.drop (v + 1)) := by rw [hpl, hps]
    have hle : prodF (ar.drop (v + 1)) ≤ part.length := by rw [hta]; exact Nat.le_mul_of_pos_left _ (by omega)
    have hdiv : part.length / a = prodF (ar.drop (v + 1)) := by rw [hta, Nat.mul_div_cancel_left _ (by omega)]
    have hsl : sliceT none (IA z o part) none (some (.int .i64 (prodF (ar.drop (v + 1)) : Nat))) none = some (IA z .no (_root_.Go.Ab.part part (prodF (ar.drop (v + 1))) 0)) := by
      rw [slice_IA _ _ _ _ _ hle]
      unfold _root_.Go.Ab.part
      rw [Nat.zero_mul, List.drop_zero]
    have hp0 := part_len hta (k := 0) (by omega)
    obtain ⟨fr, e7, hfr⟩ := W70f (z := z) (z1 := z) (o := o) (o1 := .no) (first := _root_.Go.Ab.part part (prodF (ar.drop (v + 1))) 0) gb4 hvl ha (by omega) hta (by omega) (by omega) (.ptr m.length 0) (K70_7 (finK cfg.P f70.results.toList)) (a - 1) 1 true (by omega)
    have e7 : L70_7 (.ptr b 0) (.int .i64 v) (IA z o part) (.ptr m.length 0) (.int .i64 (prodF (ar.drop (v + 1)) : Nat)) (IA z .no (_root_.Go.Ab.part part (prodF (ar.drop (v + 1))) 0)) (.bool true) (.int .i64 1) m4 (K70_7 (finK cfg.P f70.results.toList)) = _ := e7
    rw [hall, Bool.not_false, ifA_t, len_IA, Option.bind_some, nil_ptr, Option.bind_some, fa_ptr, Option.bind_some, ldx0, Option.bind_some, hix, Option.bind_some, loadA_one, Option.bind_some, n_quo (by omega) (by omega), Option.bind_some, hdiv, hsl, Option.bind_some, e7, K70_7_x0] at e0
    have hfr' : fr = true ↔ ∀ k : Nat, (k : Int) < ar.getD v 0 → _root_.Go.Ab.part part (prodF (ar.drop (v + 1))) k = _root_.Go.Ab.part part (prodF (ar.drop (v + 1))) 0 := by
      rw [hfr, hget]
      constructor
      · rintro ⟨_, h⟩ k hk
        by_cases hk0 : k = 0
        · rw [hk0]
        · exact h k (by omega) (by omega)
      · exact fun h => ⟨rfl, fun q _ hq => h q (by omega)⟩
    by_cases hf : fr = true
    · -- the variable does not matter
      rw [hf, ifA_t, i_add1 (by omega), Option.bind_some] at e0
      have ht := free_tab g h1' hvl htab (hfr'.1 hf)
      obtain ⟨m5, x5, T5, e5, k1, k2, k3, k4, k5⟩ := ih hvl m4 z .no _ id out x T gb4 n4 hbT hc ht
      refine ⟨m5, x5, T5, ?_, k1, k2, Fr.trans (f4.mono (by simp)) k3 fun y hy => .inl hy, Gr.trans f4.len (Gr.refl _ _) k4, k5⟩
      rw [e0, e5, Option.bind_some]
    · have hff : fr = false := by simpa using hf
      have hvar := node_tab g h1' hvl htab hid (fun h => hf (hfr'.2 h))
      have hb2 : buildA (.agg [(.int .i64 0), (.lst none true .full []), (.int .i64 0)]) [(0, none, .int .i64 v)] = some (.agg [.int .i64 v, .lst none true .full [], .int .i64 0]) := rfl
      have st : storeA (some 3) m4 (.ptr m.length 0) (.agg [.int .i64 v, .lst none true .full [], .int .i64 0]) = some (m4.set m.length (some (Ent.obj true [.int .i64 v, .lst none true .full [], .int .i64 0]))) := st_agg3 gq rfl
      rw [hff, ifA_f, hb2, Option.bind_some, st, Option.bind_some] at e0
      have f5 : Fr m (m4.set m.length (some (Ent.obj true [.int .i64 v, .lst none true .full [], .int .i64 0]))) (b :: T) := (f4.mono (F' := b :: T) (by simp)).set _ (.inr (Nat.le_refl _))
      obtain ⟨m6, x6, xk, T6, Tk, e14, k1, k2, k3, k4, k5, k6, k7, k8⟩ := W70k g h1 hll hvl hal ha rfl hid hvar htab (by omega) (ih hvl) (z := z) (o := o) (m0 := m) (T0 := T) (q := m.length) (Nat.le_refl _) hbl (nr_lt hnr) a 0 (m4.set m.length (some (Ent.obj true [.int .i64 v, .lst none true .full [], .int .i64 0]))) out x (.lst none true .full []) T [] (by omega)
        (by rw [g_sne (by omega)]; exact gb4) (nr_move n4 fun y hy => g_sne (fun e => hqT (e ▸ hy))) hbT hc f5 (Gr.refl _ _) hqT (by simp) (g_seq rfl (by omega)) .none (by simp)
      rw [List.drop_zero] at k2 k8
      obtain ⟨c1, c2, r, c3, c4⟩ := Vis_facts g hid l[id].kids (fun k hk => kid_lt g hid k hk) out hc
      have hol1 := nodup_lt _ _ c1.nd c1.lt
      have hnk : (nd l (Vis l l[id].kids out) id).kids = l[id].kids.map fun i => (((Vis l l[id].kids out).idxOf i.toNat : Nat) : Int) := by
        unfold nd; rw [getD_at hid]
      have hnv : (nd l (Vis l l[id].kids out) id).var = v := by unfold nd; rw [getD_at hid]; exact hvar
      have hok := nd_ok g hll (p := Vis l l[id].kids out) (by omega) hid
      have hnl : (nd l (Vis l l[id].kids out) id).leaf = 0 := by
        rcases hok with ⟨q1, _⟩ | ⟨_, _, q3, _⟩
        · rw [hnv] at q1; omega
        · exact q3
      have hkne : l[id].kids ≠ [] := good_kn g _ (List.getElem_mem hid) (by omega)
      obtain ⟨kz', ko', rfl, hstr⟩ := strip_gr k8 hnk hok (fun _ => by simpa using hkne)
      have gq6 : m6.get m.length = some (.obj true [.int .i64 (nd l (Vis l l[id].kids out) id).var, .lst none kz' ko' ((nd l (Vis l l[id].kids out) id).kids.map (AV.int .i64)), .int .i64 (nd l (Vis l l[id].kids out) id).leaf]) := by
        rw [k7, hnv, hnl]
      obtain ⟨m7, x7, T7, e18, j1, j2, j3, j4, j5⟩ := A70t (n := nd l (Vis l l[id].kids out) id) (z := kz') (o := ko') k1 k2 k3 (show m.length ≠ b by omega) k6 gq6 hstr hok (mapN_ok g hll c1) (by unfold mapN; rw [List.length_map]; omega)
      have pr := put_ref g c1 hid c2
      rw [← Vi_fold g hid hc] at pr
      refine ⟨m7, x7, T7, ?_, j1, by rw [← pr.1]; exact j2, Fr.trans k4 j3 fun y hy => ?_, Gr.trans k4.len k5 j4, j5⟩
      · have e14 : L70_14 (.ptr b 0) (.int .i64 v) (IA z o part) (.ptr m.length 0) (.int .i64 (prodF (ar.drop (v + 1)) : Nat)) (.int .i64 0) (m4.set m.length (some (Ent.obj true [.int .i64 v, .lst none true .full [], .int .i64 0]))) (K70_14 (finK cfg.P f70.results.toList)) = _ := e14
        have ld6 : loadA none m6 (.ptr b (0 + 1)) = some x6 := by rw [ld_ptr, k1]; rfl
        rw [e0, e14, K70_14_x2, nil_ptr, Option.bind_some, fa_ptr, Option.bind_some, ld6, Option.bind_some, nr_len k2, Option.bind_some, e18, pr.2]
      · rcases List.mem_cons.1 hy with rfl | hy
        · exact .inl (by simp)
        · rcases k5 y hy with h4 | h4
          · exact .inl (by simp [h4])
          · exact .inr h4
theorem A70 (g : GoodL ar l) (h1 : ∀ x ∈ ar, 1 ≤ x ∧ x ≤ 64) (hll : l.length ≤ 100000) (hal : ar.length ≤ 16) : ∀ (d v : Nat), v + d = ar.length → prodF (ar.drop v) ≤ 300 → At70 l ar za oa b v := by
  have h1' : ∀ x ∈ ar, 1 ≤ x := fun x hx => (h1 x hx).1
  intro d
  induction d with
  | zero =>
    intro v hv hpv
    exact A70s g h1 hll hal (by omega) hpv (fun hlt => by omega)
  | succ d ih =>
    intro v hv hpv
    refine A70s g h1 hll hal (by omega) hpv (fun hlt => ih (v + 1) (by omega) ?_)
    have hab := h1 _ (List.getElem_mem hlt)
    have hps := prod_step hlt
    rw [List.getD_eq_getElem?_getD, List.getElem?_eq_getElem hlt, Option.getD_some] at hps
    have : prodF (ar.drop (v + 1)) ≤ prodF (ar.drop v) := by
      rw [hps]; exact Nat.le_mul_of_pos_left _ (by omega)
    omega
end
end Go.Ab

/- What the interpreter does, function by function. -/
set_option maxRecDepth 100000
set_option linter.unusedVariables false
namespace Go.Ab
open Go.Proofs.Tryd
/-! ### sortilege/sortilegelaw23.DiagramTells -/
def O6_12 (m : Mem) : St := ⟨[.any, .any, .any, .any, .any, .any, .any, .any, .any, .any, .any, .any, .any, .any, .any, .any, .any, .any, .any, .any, .any, .any, .any, .any, .any, .any, .any, .any, .any, .any, .any, .any, .any, .any, .any, .any, .any, .any, .any, .any, .any, .any, .any, .any, .any, .any, .any, .any, .any, .any, .any, .any, .any, .any, .any, .any, .any, .any, .any, .any, .any, .any, .any, .any, .any, .any, .any, .any, .any, .any, .any, .any, .any, .any, .any, .any, .any, .any, .any, .any, .any, .any, .any, .any, .any, .any, .any, .any, .any, .any, .any, .any, .any, .any, .any, .any, .any, .any, .any, .any], m⟩
def R6_12 (x6 : AV) (m : Mem) : St := ⟨[.any, .any, .any, .any, .any, .any, x6, .any, .any, .any, .any, .any, .any, .any, .any, .any, .any, .any, .any, .any, .any, .any, .any, .any, .any, .any, .any, .any, .any, .any, .any, .any, .any, .any, .any, .any, .any, .any, .any, .any, .any, .any, .any, .any, .any, .any, .any, .any, .any, .any, .any, .any, .any, .any, .any, .any, .any, .any, .any, .any, .any, .any, .any, .any, .any, .any, .any, .any, .any, .any, .any, .any, .any, .any, .any, .any, .any, .any, .any, .any, .any, .any, .any, .any, .any, .any, .any, .any, .any, .any, .any, .any, .any, .any, .any, .any, .any, .any, .any, .any], m⟩
noncomputable def L6_12 (x7 x9 x10 x74 x75 x76 : AV) (m : Mem) (K : Ex → St → Option (AV × Mem)) : Option (AV × Mem) := loopW (execW cfg 6 (AP cfg) (AC cfg) (c1 (c1 (c2 (c1 (c2 (c2 (c2 (c2 (c2 (c2 (c2 (c2 (bodyOf f6)))))))))))))) (cfg.mask 6 (some 12)) ⟨[.any, .any, .any, .any, .any, .any, .any, x7, .any, x9, x10, .any, .any, .any, .any, .any, .any, .any, .any, .any, .any, .any, .any, .any, .any, .any, .any, .any, .any, .any, .any, .any, .any, .any, .any, .any, .any, .any, .any, .any, .any, .any, .any, .any, .any, .any, .any, .any, .any, .any, .any, .any, .any, .any, .any, .any, .any, .any, .any, .any, .any, .any, .any, .any, .any, .any, .any, .any, .any, .any, .any, .any, .any, .any, x74, x75, x76, .any, .any, .any, .any, .any, .any, .any, .any, .any, .any, .any, .any, .any, .any, .any, .any, .any, .any, .any, .any, .any, .any, .any], m⟩ K
noncomputable abbrev K6_12_0 (K : Ex → St → Option (AV × Mem)) : Ex → St → Option (AV × Mem) := seqK (fun st => execW cfg 6 (AP cfg) (AC cfg) (c2 (c2 (c2 (c2 (c2 (c2 (c2 (c2 (c2 (bodyOf f6)))))))))) st K) K
noncomputable abbrev K6_12_1 (K : Ex → St → Option (AV × Mem)) : Ex → St → Option (AV × Mem) := blockK 0 (K6_12_0 K)
noncomputable abbrev K6_12 (K : Ex → St → Option (AV × Mem)) : Ex → St → Option (AV × Mem) := (K6_12_1 K)
theorem T6 (a0 a1 a2 : AV) (m : Mem) : AC cfg 6 [a0, a1, a2] m =
  (pcall (AP cfg) none m 11 [a0]).bind fun r1 =>
  (pcall (AP cfg) none r1.2 12 [r1.1]).bind fun r2 =>
  (binA .other .neq r2.1 (.int .i64 0)).bind fun v3 =>
  ifA v3 (
  (pcall (AP cfg) none r2.2 13 []).bind fun r4 =>
  some (r4.1, r4.2)) (
  (pcall (AP cfg) none r2.2 28 [r1.1, a1]).bind fun r5 =>
  (pcall (AP cfg) none r5.2 28 [r1.1, a2]).bind fun r6 =>
  (AC cfg 29 [r1.1, r5.1] r6.2).bind fun r7 =>
  (extractA r7.1 0).bind fun v8 =>
  (extractA r7.1 1).bind fun v9 =>
  (extractA r7.1 2).bind fun v10 =>
  (unA .not v10).bind fun v11 =>
  ifA v11 (
  some ((.bool false), r7.2)) (
  (AC cfg 30 [v8, r1.1, r6.1, (.int .i64 0)] r7.2).bind fun r12 =>
  (extractA r12.1 0).bind fun v13 =>
  (extractA r12.1 1).bind fun v14 =>
  (binA .other .neq v14 (.int .i64 0)).bind fun v15 =>
  ifA v15 (
  some ((.bool false), r12.2)) (
  (binA .other .eql v9 v13).bind fun v16 =>
  (pcall (AP cfg) none r12.2 33 [r5.1, r6.1]).bind fun r17 =>
  (binA .bl .neq v16 r17.1).bind fun v18 =>
  ifA v18 (
  some ((.bool false), r17.2)) (
  (AC cfg 34 [v8, v9, r1.1, r5.1] r17.2).bind fun r19 =>
  (unA .not r19.1).bind fun v20 =>
  ifA v20 (
  some ((.bool false), r19.2)) (
  (AC cfg 34 [v8, v13, r1.1, r6.1] r19.2).bind fun r21 =>
  (unA .not r21.1).bind fun v22 =>
  ifA v22 (
  some ((.bool false), r21.2)) (
  (pcall (AP cfg) none r21.2 35 [r1.1]).bind fun r23 =>
  (lenA false r23.1).bind fun v24 =>
  L6_12 r5.1 v8 v9 r23.1 v24 (.int .i64 0) r23.2 (K6_12 (finK cfg.P f6.results.toList)))))))) :=
(AC_eq cfg 6 [a0, a1, a2] m (fn := f6) (c := bodyOf f6) at6 rfl).trans (by kernel_rfl)
theorem L6_12_eq (x7 x9 x10 x74 x75 x76 : AV) (m : Mem) (K : Ex → St → Option (AV × Mem)) : L6_12 x7 x9 x10 x74 x75 x76 m K =
  (binA .other .lss x76 x75).bind fun v1 =>
  ifA v1 (
  (indexAddrA none x74 x76).bind fun v2 =>
  (loadA none m v2).bind fun v3 =>
  (AC cfg 36 [x9, x10, v3] m).bind fun r4 =>
  (extractA r4.1 0).bind fun v5 =>
  (extractA r4.1 1).bind fun v6 =>
  (binA .other .neq v6 (.int .i64 0)).bind fun v7 =>
  ifA v7 (
  K .ret (R6_12 (.bool false) r4.2)) (
  (indexAddrA none x7 x76).bind fun v8 =>
  (loadA none r4.2 v8).bind fun v9 =>
  (binA .other .neq v5 v9).bind fun v10 =>
  ifA v10 (
  K .ret (R6_12 (.bool false) r4.2)) (
  (binA .other .add x76 (.int .i64 1)).bind fun v11 =>
  L6_12 x7 x9 x10 x74 x75 v11 r4.2 K))) (
  K (.exit 0) (O6_12 m)) :=
(loopW_eq (execW_lin _) _ _ _).trans (by kernel_rfl)
theorem K6_12_x0 (m : Mem) : K6_12 (finK cfg.P f6.results.toList) (.exit 0) (O6_12  m) =
  (pcall (AP cfg) none m 13 []).bind fun r1 =>
  some (r1.1, r1.2) := by kernel_rfl
end Go.Ab

/- DiagramTells in values. -/
set_option linter.unusedVariables false
set_option linter.unusedSimpArgs false
set_option linter.unusedSectionVars false
set_option maxRecDepth 100000
namespace Go.Ab
open Go.Proofs Go.Proofs.Tryd

theorem nr_ne {e : Nat} {m : Mem} {x : AV} {l : List ND} {T : List Nat} (h : NR e m x l T) (hl : l ≠ []) : ∃ t, x = NL false (.tok t e) l := by
  cases h with
  | none => exact absurd rfl hl
  | some t l ht => exact ⟨t, rfl⟩
theorem V46 {l : List ND} {ar : List Int} (g : GoodL ar l) (h1 : ∀ x ∈ ar, 1 ≤ x ∧ x ≤ 64) (hll : l.length ≤ 100000) (hal : ar.length ≤ 16) (hp : prodF ar ≤ 300) {id : Nat} {t : List Int} (htab : TabV ar l id 0 t) (za z : Bool) (oa o : Own) :
    AP cfg 46 [IA za oa ar, IA z o t] = some (NL false .no (mapN l (Vi l id []))) := by
  have hne : mapN l (Vi l id []) ≠ [] := by
    obtain ⟨_, c2, _⟩ := Vi_facts g id htab.lt [] cl_nil
    intro e
    unfold mapN at e
    rw [List.map_eq_nil_iff] at e
    rw [e] at c2; cases c2
  have hb : buildA (.agg [(.lst none true .full []), (.lst none true .full [])]) [(0, none, IA za oa ar)] = some (.agg [IA za oa ar, .lst none true .full []]) := rfl
  have hx : boxA none (some 2) ([] : Mem) (.agg [IA za oa ar, .lst none true .full []]) = some (.ptr 0 0, [some (Ent.obj true [IA za oa ar, .lst none true .full []])]) := rfl
  obtain ⟨m', x', T', e, k1, k2, _, _, _⟩ := A70 (za := za) (oa := oa) (b := 0) g h1 hll hal ar.length 0 (by omega) hp [some (Ent.obj true [IA za oa ar, .lst none true .full []])] z o t id [] (.lst none true .full []) [] rfl .none (by simp) cl_nil htab
  obtain ⟨tk, rfl⟩ := nr_ne k2 hne
  refine AP_of (m := m') (v := NL false (.tok tk 39) (mapN l (Vi l id []))) (l := []) ?_ rfl rfl
  have e : AC cfg 70 [.ptr 0 0, .int .i64 0, IA z o t] [some (Ent.obj true [IA za oa ar, .lst none true .full []])] = _ := e
  have ld : loadA none m' (.ptr 0 (0 + 1)) = some (NL false (.tok tk 39) (mapN l (Vi l id []))) := by rw [ld_ptr, k1]; rfl
  rw [T46, hb, Option.bind_some, hx, Option.bind_some, e, Option.bind_some, nil_ptr, Option.bind_some, fa_ptr, Option.bind_some, ld, Option.bind_some]
theorem W39 {z : Bool} {o : Own} {L : List ND} (hL : L.length ≤ 100000) : ∀ (q p : List ND) (m : Mem) (x : AV) (T : List Nat), L = p ++ q → NR 39 m x p T →
    ∃ (m' : Mem) (x' : AV) (T' : List Nat), L39_3 x (NL z o L) (.int .i64 L.length) (.int .i64 p.length) m (K39_3 (finK cfg.P f39.results.toList)) = some (x', m') ∧ NR 39 m' x' L T' := by
  intro q
  induction q with
  | nil =>
    intro p m x T hpq h
    rw [List.append_nil] at hpq
    subst hpq
    refine ⟨m, x, T, ?_, h⟩
    rw [L39_3_eq, binA_lss, Option.bind_some, ifA_dec, if_neg (by omega), K39_3_x0]
  | cons n q ih =>
    intro p m x T hpq h
    have hpl : p.length < L.length := by rw [hpq]; simp
    have hat : L[p.length] = n := by simp [hpq]
    have hix := idx_NL (z := z) (o := o) hpl
    rw [hat] at hix
    have bx := box_av n m (get_len m)
    have f1 : Fr m (m ++ [some (Ent.obj true [.int .i64 n.var, kidsA n, .int .i64 n.leaf])]) [] := Fr.app m _ _
    have h2 : NR 39 (m ++ [some (Ent.obj true [.int .i64 n.var, kidsA n, .int .i64 n.leaf])]) x p T := nr_move h fun k hk => f1.get k (nr_lt h k hk) (by simp)
    obtain ⟨x3, m3, T3, ea, n3, _, _⟩ := nr_app h2 (by omega) n
    obtain ⟨m', x', T', e, k⟩ := ih (p ++ [n]) m3 x3 T3 (by rw [hpq, List.append_assoc]; rfl) n3
    refine ⟨m', x', T', ?_, k⟩
    have ld2 : loadA (some 3) (m ++ [some (Ent.obj true [.int .i64 n.var, kidsA n, .int .i64 n.leaf])]) (.ptr m.length 0) = some n.av := by
      rw [ld_ptr, g_eq rfl]; rfl
    have hbs : buildSliceA (some 3) [n.av] = some (.lst (some 3) false .full [n.av]) := bsl_av n
    rw [L39_3_eq, binA_lss, Option.bind_some, ifA_dec, if_pos (by omega), hix, Option.bind_some, ld_v3, Option.bind_some, new_n, new_n]
    dsimp only
    rw [bx, Option.bind_some, ld2, Option.bind_some, hbs, Option.bind_some, ea, Option.bind_some, i_add1 (by omega), Option.bind_some]
    rw [List.length_append] at e
    exact e
theorem V39 (z : Bool) (o : Own) (L : List ND) (hL : L.length ≤ 100000) (hne : L ≠ []) : AP cfg 39 [NL z o L] = some (NL false .no L) := by
  obtain ⟨m', x', T', e, h⟩ := W39 (z := z) (o := o) hL L [] [] (.lst none true .full []) [] rfl .none
  obtain ⟨tk, rfl⟩ := nr_ne h hne
  refine AP_of (m := m') (v := NL false (.tok tk 39) L) (l := []) ?_ rfl rfl
  rw [T39, len_NL, Option.bind_some]
  exact e
theorem A34 {m0 : Mem} {s : Nat} {F : List Nat} {arms : AV} {most : Int} {l : List ND} {ar : List Int} (h0 : St8 m0 s F arms most l) (g : GoodL ar l) (h1 : ∀ x ∈ ar, 1 ≤ x ∧ x ≤ 64) (hll : l.length ≤ 100000) (hm : most ≠ 0) (hal : ar.length ≤ 16) (hp : prodF ar ≤ 300) {id : Nat} {t : List Int} (htab : TabV ar l id 0 t) (za z : Bool) (oa o : Own) :
    ∃ m', AC cfg 34 [.ptr s 0, .int .i64 id, IA za oa ar, IA z o t] m0 = some (.bool true, m') ∧ Fr m0 m' [] := by
  obtain ⟨m1, y, T, e25, hn, f⟩ := A25 h0 g hll hm htab.lt
  obtain ⟨c1, c2, _⟩ := Vi_facts g id htab.lt [] cl_nil
  have hne : mapN l (Vi l id []) ≠ [] := by
    intro e
    unfold mapN at e
    rw [List.map_eq_nil_iff] at e
    rw [e] at c2; cases c2
  obtain ⟨tk, rfl⟩ := nr_ne hn hne
  have hlen : (mapN l (Vi l id [])).length ≤ 100000 := by
    unfold mapN; rw [List.length_map]
    have := nodup_lt _ _ c1.nd c1.lt
    omega
  have hok := mapN_ok g hll c1
  refine ⟨m1, ?_, f⟩
  rw [T34, e25, Option.bind_some, ex0, Option.bind_some, ex1, Option.bind_some, binA_eql, Option.bind_some, ifA_dec, if_pos rfl,
    pcall1 (fz_NL false (.tok tk 44) _), V39 _ _ _ hlen hne, Option.map_some, Option.bind_some,
    pcall2 (fz_IA za oa ar) (fz_IA z o t), V46 g h1 hll hal hp htab, Option.map_some, Option.bind_some, pc22 _ _ _ _ _ _ hok hok hlen, Option.bind_some, decide_eq_true rfl]
theorem pc28 (z zl : Bool) (o ol : Own) (ar l : List Int) (h1 : ar.length ≤ 16) (h2 : ∀ a ∈ ar, 1 ≤ a ∧ a ≤ 64) {N : Nat} (hN : placesF 300 1 ar = N) (hN2 : N ≤ 300) (m : Mem) : ∃ (z' : Bool) (o' : Own) (t : List Int), pcall (AP cfg) none m 28 [IA z o ar, IA zl ol l] = some (IA z' o' t, m) ∧ (z' = true → t = []) ∧ t.length = N ∧ ∀ y ∈ t, 0 ≤ y ∧ y ≤ 4 := by
  obtain ⟨z', o', t, e, h⟩ := V28 z zl o.fr ol.fr ar l h1 h2 hN hN2
  exact ⟨z', o', t, by rw [pcall2 (fz_IA z o ar) (fz_IA zl ol l), e]; rfl, h⟩
theorem bl_neq (a b : Bool) : binA .bl .neq (.bool a) (.bool b) = some (.bool (a != b)) := rfl
theorem W6 {m : Mem} {s : Nat} {F : List Nat} {zs zt za : Bool} {os ot oa : Own} {ar t : List Int} {most : Int} {l : List ND} (h : St8 m s F (IA zs os ar) most l) (g : GoodL ar l) (hm : most ≠ 0) (hal : ar.length ≤ 16) {id : Nat} (htab : TabV ar l id 0 t) {css : List (List Int)} (hc : ∀ k (h : k < css.length), Asn ar k css[k]) (hl : css.length = t.length) (hl2 : css.length ≤ 300) : ∀ j i : Nat, i + j = css.length →
    L6_12 (IA zt ot t) (.ptr s 0) (.int .i64 id) (.lst none za oa (css.map (IA false .no))) (.int .i64 css.length) (.int .i64 i) m (K6_12 (finK cfg.P f6.results.toList)) = some (.bool true, m)
  | 0, i, hi => by
    rw [L6_12_eq, binA_lss, Option.bind_some, ifA_dec, if_neg (by omega), K6_12_x0, pc13, Option.bind_some]
  | j + 1, i, hi => by
    have hil : i < css.length := by omega
    have hit : i < t.length := by omega
    have ha := hc i hil
    have hix : indexAddrA none (.lst none za oa (css.map (IA false .no))) (.int .i64 i) = some (.vptr [IA false .no css[i]]) := by
      simp [indexAddrA, hil, AV.cells]
    have e36 := A36 (z := false) (o := .no) h g hm hal htab.lt ha.len ha.bd
    have ev : S l (asgOf css[i]) id = t[i] := by
      rw [htab.val _ ha.asg]
      have : idxF (ar.drop 0) 0 (asgOf css[i]) = i := ha.idx
      rw [this, List.getD_eq_getElem?_getD, List.getElem?_eq_getElem hit, Option.getD_some]
    rw [ev] at e36
    rw [L6_12_eq, binA_lss, Option.bind_some, ifA_dec, if_pos (by omega), hix, Option.bind_some, loadA_one, Option.bind_some, e36, Option.bind_some, ex0, Option.bind_some, ex1, Option.bind_some, binA_neq, Option.bind_some, ifA_dec, if_neg (by simp), idx_IA hit, Option.bind_some, loadA_one, Option.bind_some, binA_neq, Option.bind_some, ifA_dec, if_neg (by simp), i_add1 (by omega), Option.bind_some]
    exact W6 h g hm hal htab hc hl hl2 j (i + 1) (by omega)
/-- Arms that few leaves: how many places. -/
theorem few_places {r : List Int} (hg : goodArms r) (he : armsE r = 0) : placesF 300 1 r = (prodF r : Nat) ∧ prodF r ≤ 300 := by
  obtain ⟨_, h2⟩ := armsE_ok he
  have := places_prod r 1 (fun a ha => (h2 a ha).1) (by omega) (by omega) (hg he)
  rw [Int.one_mul] at this
  exact ⟨this.1, by omega⟩
theorem DiagramTells_law (z zl zm : Bool) (ar l mm : List Int) : ∃ m', AC cfg 6 [IA z .no ar, IA zl .no l, IA zm .no mm] [] = some (.bool true, m') := by
  obtain ⟨o', r, e11, hg, hr17, ho'⟩ := V11 z .no ar
  have p11 : ∀ m, pcall (AP cfg) none m 11 [IA z .no ar] = some (IA false o' r, m) := fun m => by
    rw [pcall1 (fz_IA z .no ar), show (Own.no).fr = Own.no from rfl, e11]; rfl
  rw [T6, p11, Option.bind_some, pc12, Option.bind_some, binA_neq, Option.bind_some, ifA_dec]
  by_cases he : armsE r = 0
  · rw [if_neg (by simpa using he)]
    obtain ⟨h1, h2⟩ := armsE_ok he
    obtain ⟨hN, hN2⟩ := few_places hg he
    obtain ⟨zt, ot, t, e28, _, htl, htb⟩ := pc28 false zl o' .no r l h1 h2 hN hN2 []
    obtain ⟨zu, ou, u, e28', _, hul, hub⟩ := pc28 false zm o' .no r mm h1 h2 hN hN2 []
    obtain ⟨m1, s, F1, zs, os, l1, id1, e29, st1, g1, tab1, hl1, f1, _⟩ := A29 (za := false) (z := zt) (oa := o') (o := ot) (ar := r) (t := t) [] (fun h => by cases h) he hN2 htl htb
    obtain ⟨m2, F2, l2, id2, e30, st2, g2, tab2, hl2, f2, _⟩ := A30 (s := s) (zs := zs) (za := false) (os := os) (oa := o') (ar := r) h2 h1 hN2 r.length 0 (by omega) hN2 m1 F1 l1 u zu ou st1 g1 hul hub (by have : prodF (r.drop 0) = prodF r := rfl; omega)
    have tab1' := tab1.app g1 l2
    have e30 : AC cfg 30 [.ptr s 0, IA false o' r, IA zu ou u, .int .i64 0] m1 = _ := e30
    have hlen : (l1 ++ l2).length ≤ 100000 := by rw [List.length_append]; omega
    have hid : ((id1 : Int) = id2) ↔ t = u := by
      constructor
      · intro e
        have : id1 = id2 := by omega
        subst this
        exact tab_eq (fun x hx => (h2 x hx).1) (Nat.zero_le _) tab1' tab2
      · intro e
        subst e
        rw [tab_same g2 (fun x hx => (h2 x hx).1) tab1' tab2]
    obtain ⟨m3, e34, f3⟩ := A34 st2 g2 h2 hlen (by omega) h1 hN2 tab1' false zt o' ot
    have st3 := st2.app f3
    obtain ⟨m4, e34', f4⟩ := A34 st3 g2 h2 hlen (by omega) h1 hN2 tab2 false zu o' ou
    have st4 := st3.app f4
    obtain ⟨z35, o35, css, e35, hcl, hcs⟩ := pc35 false o' r h2 h1 hN2 m4
    refine ⟨m4, ?_⟩
    rw [e28, Option.bind_some, e28', Option.bind_some, e29, Option.bind_some, show extractA (.tup [.ptr s 0, .int .i64 (id1 : Nat), .bool true]) 0 = some (.ptr s 0) from rfl, Option.bind_some, show extractA (.tup [.ptr s 0, .int .i64 (id1 : Nat), .bool true]) 1 = some (.int .i64 (id1 : Nat)) from rfl, Option.bind_some, show extractA (.tup [.ptr s 0, .int .i64 (id1 : Nat), .bool true]) 2 = some (.bool true) from rfl, Option.bind_some, un_not, Option.bind_some, Bool.not_true, ifA_f,
      e30, Option.bind_some, ex0, Option.bind_some, ex1, Option.bind_some, binA_neq, Option.bind_some, ifA_dec, if_neg (by simp), binA_eql, Option.bind_some, pc33 _ _ _ _ _ _ (by omega), Option.bind_some, bl_neq, Option.bind_some, decide_eq_decide.2 hid, bne_self_eq_false, ifA_f,
      e34, Option.bind_some, un_not, Option.bind_some, Bool.not_true, ifA_f, e34', Option.bind_some, un_not, Option.bind_some, Bool.not_true, ifA_f, e35, Option.bind_some, lenA_lst, List.length_map, Option.bind_some]
    exact W6 st4 g2 (by omega) h1 tab1' hcs (by omega) (by omega) css.length 0 (by omega)
  · rw [if_pos he, pc13, Option.bind_some]
    exact ⟨_, rfl⟩
end Go.Ab

/- What the interpreter does, function by function. -/
set_option maxRecDepth 100000
set_option linter.unusedVariables false
namespace Go.Ab
open Go.Proofs.Tryd
/-! ### sortilege/sortilegelaw23.DiagramSteps -/
def O3_10 (x5 x7 : AV) (m : Mem) : St := ⟨[.any, .any, .any, .any, .any, x5, .any, x7, .any, .any, .any, .any, .any, .any, .any, .any, .any, .any, .any, .any, .any, .any, .any, .any, .any, .any, .any, .any, .any, .any, .any, .any, .any, .any, .any, .any, .any, .any, .any, .any, .any, .any, .any, .any, .any, .any, .any, .any, .any, .any, .any, .any, .any, .any, .any, .any, .any, .any, .any, .any, .any, .any, .any, .any, .any, .any, .any, .any, .any, .any, .any, .any, .any, .any, .any, .any, .any, .any, .any, .any, .any, .any, .any, .any, .any, .any, .any, .any, .any, .any, .any, .any, .any, .any, .any, .any, .any, .any, .any, .any, .any, .any, .any, .any, .any, .any, .any, .any, .any, .any, .any, .any, .any, .any, .any, .any, .any, .any, .any, .any, .any, .any, .any, .any, .any, .any, .any, .any, .any, .any, .any, .any, .any, .any, .any, .any, .any, .any, .any, .any, .any, .any, .any, .any, .any, .any, .any, .any, .any, .any, .any, .any, .any, .any, .any, .any, .any, .any, .any, .any, .any, .any, .any, .any, .any, .any, .any, .any, .any, .any, .any, .any], m⟩
def R3_10 (x4 : AV) (m : Mem) : St := ⟨[.any, .any, .any, .any, x4, .any, .any, .any, .any, .any, .any, .any, .any, .any, .any, .any, .any, .any, .any, .any, .any, .any, .any, .any, .any, .any, .any, .any, .any, .any, .any, .any, .any, .any, .any, .any, .any, .any, .any, .any, .any, .any, .any, .any, .any, .any, .any, .any, .any, .any, .any, .any, .any, .any, .any, .any, .any, .any, .any, .any, .any, .any, .any, .any, .any, .any, .any, .any, .any, .any, .any, .any, .any, .any, .any, .any, .any, .any, .any, .any, .any, .any, .any, .any, .any, .any, .any, .any, .any, .any, .any, .any, .any, .any, .any, .any, .any, .any, .any, .any, .any, .any, .any, .any, .any, .any, .any, .any, .any, .any, .any, .any, .any, .any, .any, .any, .any, .any, .any, .any, .any, .any, .any, .any, .any, .any, .any, .any, .any, .any, .any, .any, .any, .any, .any, .any, .any, .any, .any, .any, .any, .any, .any, .any, .any, .any, .any, .any, .any, .any, .any, .any, .any, .any, .any, .any, .any, .any, .any, .any, .any, .any, .any, .any, .any, .any, .any, .any, .any, .any, .any, .any], m⟩
noncomputable def L3_10 (x0 x5 x7 x41 x42 x43 : AV) (m : Mem) (K : Ex → St → Option (AV × Mem)) : Option (AV × Mem) := loopW (execW cfg 3 (AP cfg) (AC cfg) (c1 (c1 (c2 (c1 (c2 (c2 (c2 (c2 (c2 (c2 (c2 (bodyOf f3))))))))))))) (cfg.mask 3 (some 10)) ⟨[x0, .any, .any, .any, .any, x5, .any, x7, .any, .any, .any, .any, .any, .any, .any, .any, .any, .any, .any, .any, .any, .any, .any, .any, .any, .any, .any, .any, .any, .any, .any, .any, .any, .any, .any, .any, .any, .any, .any, .any, .any, x41, x42, x43, .any, .any, .any, .any, .any, .any, .any, .any, .any, .any, .any, .any, .any, .any, .any, .any, .any, .any, .any, .any, .any, .any, .any, .any, .any, .any, .any, .any, .any, .any, .any, .any, .any, .any, .any, .any, .any, .any, .any, .any, .any, .any, .any, .any, .any, .any, .any, .any, .any, .any, .any, .any, .any, .any, .any, .any, .any, .any, .any, .any, .any, .any, .any, .any, .any, .any, .any, .any, .any, .any, .any, .any, .any, .any, .any, .any, .any, .any, .any, .any, .any, .any, .any, .any, .any, .any, .any, .any, .any, .any, .any, .any, .any, .any, .any, .any, .any, .any, .any, .any, .any, .any, .any, .any, .any, .any, .any, .any, .any, .any, .any, .any, .any, .any, .any, .any, .any, .any, .any, .any, .any, .any, .any, .any, .any, .any, .any, .any], m⟩ K
noncomputable abbrev K3_10_0 (K : Ex → St → Option (AV × Mem)) : Ex → St → Option (AV × Mem) := seqK (fun st => execW cfg 3 (AP cfg) (AC cfg) (c2 (c2 (c2 (c2 (c2 (c2 (c2 (c2 (bodyOf f3))))))))) st K) K
noncomputable abbrev K3_10_1 (K : Ex → St → Option (AV × Mem)) : Ex → St → Option (AV × Mem) := blockK 0 (K3_10_0 K)
noncomputable abbrev K3_10 (K : Ex → St → Option (AV × Mem)) : Ex → St → Option (AV × Mem) := (K3_10_1 K)
theorem T3 (a0 a1 : AV) (m : Mem) : AC cfg 3 [a0, a1] m =
  (pcall (AP cfg) none m 11 [a0]).bind fun r1 =>
  (lenA false a1).bind fun v2 =>
  (maxA false v2 (.int .i64 60)).bind fun v3 =>
  (sliceT (some 3) a1 none (some v3) none).bind fun v4 =>
  (pcall (AP cfg) none r1.2 12 [r1.1]).bind fun r5 =>
  (binA .other .neq r5.1 (.int .i64 0)).bind fun v6 =>
  ifA v6 (
  (pcall (AP cfg) none r5.2 13 []).bind fun r7 =>
  some (r7.1, r7.2)) (
  (AC cfg 14 [r1.1] r5.2).bind fun r8 =>
  (extractA r8.1 0).bind fun v9 =>
  (extractA r8.1 1).bind fun v10 =>
  (binA .other .neq v10 (.int .i64 0)).bind fun v11 =>
  ifA v11 (
  some ((.bool false), r8.2)) (
  (lenA false v4).bind fun v12 =>
  L3_10 r1.1 v9 (.lst none true .full []) v4 v12 (.int .i64 0) r8.2 (K3_10 (finK cfg.P f3.results.toList)))) :=
(AC_eq cfg 3 [a0, a1] m (fn := f3) (c := bodyOf f3) at3 rfl).trans (by kernel_rfl)
theorem L3_10_eq (x0 x5 x7 x41 x42 x43 : AV) (m : Mem) (K : Ex → St → Option (AV × Mem)) : L3_10 x0 x5 x7 x41 x42 x43 m K =
  (binA .other .lss x43 x42).bind fun v1 =>
  ifA v1 (
  (indexAddrA (some 3) x41 x43).bind fun v2 =>
  (loadA (some 3) m v2).bind fun v3 =>
  (storeA (some 3) (newAt none m (.obj true [(.int .i64 0), (.int .i64 0), (.lst none true .full [])])).2 (.ptr (newAt none m .resv).1 0) v3).bind fun m4 =>
  (fieldAddrA 0 (.ptr (newAt none m .resv).1 0)).bind fun v5 =>
  (loadA none m4 v5).bind fun v6 =>
  (binA .other .rem v6 (.int .i64 2)).bind fun v7 =>
  (binA .other .eql v7 (.int .i64 0)).bind fun v8 =>
  ifA v8 (
  (fieldAddrA 1 (.ptr (newAt none m .resv).1 0)).bind fun v9 =>
  (loadA none m4 v9).bind fun v10 =>
  (AC cfg 15 [x5, v10] m4).bind fun r11 =>
  (extractA r11.1 0).bind fun v12 =>
  (extractA r11.1 1).bind fun v13 =>
  (fieldAddrA 1 (.ptr (newAt none m .resv).1 0)).bind fun v14 =>
  (loadA none r11.2 v14).bind fun v15 =>
  (binA .other .geq v15 (.int .i64 0)).bind fun v16 =>
  ifA v16 (
  (fieldAddrA 1 (.ptr (newAt none m .resv).1 0)).bind fun v17 =>
  (loadA none r11.2 v17).bind fun v18 =>
  (binA .other .leq v18 (.int .i64 2147483647)).bind fun v19 =>
  ifA v19 (
  (fieldAddrA 1 (.ptr (newAt none m .resv).1 0)).bind fun v20 =>
  (loadA none r11.2 v20).bind fun v21 =>
  (buildA (.agg [(.int .i64 0), (.lst none true .full []), (.int .i64 0)]) [(0, none, (.int .i64 (-1))), (2, none, v21)]).bind fun v22 =>
  (AC cfg 16 [x7, v22] r11.2).bind fun r23 =>
  (extractA r23.1 0).bind fun v24 =>
  (extractA r23.1 1).bind fun v25 =>
  (binA .other .neq v13 (.int .i64 0)).bind fun v26 =>
  ifA v26 (
  K .ret (R3_10 (.bool false) r23.2)) (
  (binA .other .neq v12 v25).bind fun v27 =>
  ifA v27 (
  K .ret (R3_10 (.bool false) r23.2)) (
  (AC cfg 20 [x5] r23.2).bind fun r28 =>
  (lenA false v24).bind fun v29 =>
  (binA .other .neq r28.1 v29).bind fun v30 =>
  ifA v30 (
  K .ret (R3_10 (.bool false) r28.2)) (
  (binA .other .add x43 (.int .i64 1)).bind fun v31 =>
  L3_10 x0 x5 v24 x41 x42 v31 r28.2 K)))) (
  (binA .other .neq v13 (.int .i64 1)).bind fun v32 =>
  ifA v32 (
  K .ret (R3_10 (.bool false) r11.2)) (
  (binA .other .neq v12 (.int .i64 0)).bind fun v33 =>
  ifA v33 (
  K .ret (R3_10 (.bool false) r11.2)) (
  (AC cfg 20 [x5] r11.2).bind fun r34 =>
  (lenA false x7).bind fun v35 =>
  (binA .other .neq r34.1 v35).bind fun v36 =>
  ifA v36 (
  K .ret (R3_10 (.bool false) r34.2)) (
  (binA .other .add x43 (.int .i64 1)).bind fun v37 =>
  L3_10 x0 x5 x7 x41 x42 v37 r34.2 K))))) (
  (binA .other .neq v13 (.int .i64 1)).bind fun v38 =>
  ifA v38 (
  K .ret (R3_10 (.bool false) r11.2)) (
  (binA .other .neq v12 (.int .i64 0)).bind fun v39 =>
  ifA v39 (
  K .ret (R3_10 (.bool false) r11.2)) (
  (AC cfg 20 [x5] r11.2).bind fun r40 =>
  (lenA false x7).bind fun v41 =>
  (binA .other .neq r40.1 v41).bind fun v42 =>
  ifA v42 (
  K .ret (R3_10 (.bool false) r40.2)) (
  (binA .other .add x43 (.int .i64 1)).bind fun v43 =>
  L3_10 x0 x5 x7 x41 x42 v43 r40.2 K))))) (
  (fieldAddrA 2 (.ptr (newAt none m .resv).1 0)).bind fun v44 =>
  (loadA none m4 v44).bind fun v45 =>
  (fieldAddrA 2 (.ptr (newAt none m .resv).1 0)).bind fun v46 =>
  (loadA none m4 v46).bind fun v47 =>
  (lenA false v47).bind fun v48 =>
  (maxA false v48 (.int .i64 70)).bind fun v49 =>
  (sliceT none v45 none (some v49) none).bind fun v50 =>
  (fieldAddrA 1 (.ptr (newAt none m .resv).1 0)).bind fun v51 =>
  (loadA none m4 v51).bind fun v52 =>
  (AC cfg 17 [x5, v52, v50] m4).bind fun r53 =>
  (extractA r53.1 0).bind fun v54 =>
  (extractA r53.1 1).bind fun v55 =>
  (fieldAddrA 1 (.ptr (newAt none m .resv).1 0)).bind fun v56 =>
  (loadA none r53.2 v56).bind fun v57 =>
  (pcall (AP cfg) none r53.2 18 [x0, x7, v57, v50]).bind fun r58 =>
  ifA r58.1 (
  (pcall (AP cfg) none r58.2 19 [v50]).bind fun r59 =>
  ifA r59.1 (
  (indexAddrA none v50 (.int .i64 0)).bind fun v60 =>
  (loadA none r59.2 v60).bind fun v61 =>
  (binA .other .neq v55 (.int .i64 0)).bind fun v62 =>
  ifA v62 (
  K .ret (R3_10 (.bool false) r59.2)) (
  (binA .other .neq v54 v61).bind fun v63 =>
  ifA v63 (
  K .ret (R3_10 (.bool false) r59.2)) (
  (AC cfg 20 [x5] r59.2).bind fun r64 =>
  (lenA false x7).bind fun v65 =>
  (binA .other .neq r64.1 v65).bind fun v66 =>
  ifA v66 (
  K .ret (R3_10 (.bool false) r64.2)) (
  (binA .other .add x43 (.int .i64 1)).bind fun v67 =>
  L3_10 x0 x5 x7 x41 x42 v67 r64.2 K)))) (
  (fieldAddrA 1 (.ptr (newAt none m .resv).1 0)).bind fun v68 =>
  (loadA none r59.2 v68).bind fun v69 =>
  (buildSliceA none []).bind fun v70 =>
  (appA none false 3 none 8 r59.2 v70 v50).bind fun r71 =>
  ifP ((loadA none r71.2 v68).bind (fun v => some (v, r71.2)) = some (v69, r71.2)) (
  (buildA (.agg [(.int .i64 0), (.lst none true .full []), (.int .i64 0)]) [(0, none, v69), (1, none, r71.1)]).bind fun v72 =>
  (AC cfg 16 [x7, v72] r71.2).bind fun r73 =>
  (extractA r73.1 0).bind fun v74 =>
  (extractA r73.1 1).bind fun v75 =>
  (binA .other .neq v55 (.int .i64 0)).bind fun v76 =>
  ifA v76 (
  K .ret (R3_10 (.bool false) r73.2)) (
  (binA .other .neq v54 v75).bind fun v77 =>
  ifA v77 (
  K .ret (R3_10 (.bool false) r73.2)) (
  (AC cfg 20 [x5] r73.2).bind fun r78 =>
  (lenA false v74).bind fun v79 =>
  (binA .other .neq r78.1 v79).bind fun v80 =>
  ifA v80 (
  K .ret (R3_10 (.bool false) r78.2)) (
  (binA .other .add x43 (.int .i64 1)).bind fun v81 =>
  L3_10 x0 x5 v74 x41 x42 v81 r78.2 K)))))) (
  (binA .other .neq v55 (.int .i64 1)).bind fun v82 =>
  ifA v82 (
  K .ret (R3_10 (.bool false) r58.2)) (
  (binA .other .neq v54 (.int .i64 0)).bind fun v83 =>
  ifA v83 (
  K .ret (R3_10 (.bool false) r58.2)) (
  (AC cfg 20 [x5] r58.2).bind fun r84 =>
  (lenA false x7).bind fun v85 =>
  (binA .other .neq r84.1 v85).bind fun v86 =>
  ifA v86 (
  K .ret (R3_10 (.bool false) r84.2)) (
  (binA .other .add x43 (.int .i64 1)).bind fun v87 =>
  L3_10 x0 x5 x7 x41 x42 v87 r84.2 K)))))) (
  K (.exit 0) (O3_10 x5 x7 m)) :=
(loopW_eq (execW_lin _) _ _ _).trans (by kernel_rfl)
end Go.Ab

/- DiagramSteps in values. -/
set_option linter.unusedVariables false
set_option linter.unusedSimpArgs false
set_option linter.unusedSectionVars false
set_option maxRecDepth 100000
namespace Go.Ab
open Go.Proofs Go.Proofs.Tryd

structure SP where
  kind : Int
  a : Int
  kz : Bool
  kids : List Int
def SP.av (x : SP) : AV := .agg [.int .i64 x.kind, .int .i64 x.a, IA x.kz .no x.kids]
abbrev SL (z : Bool) (o : Own) (l : List SP) : AV := .lst (some 3) z o (l.map SP.av)
theorem idx_SL {z : Bool} {o : Own} {l : List SP} {i : Nat} (hi : i < l.length) : indexAddrA (some 3) (SL z o l) (.int .i64 i) = some (.vptr [.int .i64 l[i].kind, .int .i64 l[i].a, IA l[i].kz .no l[i].kids]) := by
  simp [indexAddrA, hi]; rfl
theorem st_new3 {m : Mem} {a b c a' b' c' : AV} (hs : shOk (some 3) (.agg [a', b', c']) = true) : storeA (some 3) (m ++ [some (Ent.obj true [a, b, c])]) (.ptr m.length 0) (.agg [a', b', c']) = some (m ++ [some (Ent.obj true [a', b', c'])]) := by
  rw [st_ptr, g_eq rfl, objE_obj, Option.bind_some]
  simp [putE1, Sh.size, hs, putAt, AV.cells]
theorem rem2 (tk : TK) (a : Int) : binA tk .rem (.int .i64 a) (.int .i64 2) = some (.int .i64 (a.tmod 2)) := by cases tk <;> rfl
/-- The store and the law's own row hold the same nodes. -/
structure Inv3 (m : Mem) (s : Nat) (F : List Nat) (arms : AV) (l : List ND) (x : AV) (T : List Nat) : Prop where
  st : St8 m s F arms 4000 l
  nr : NR 39 m x l T
  dj : ∀ k ∈ F, k ∉ T
  kn : kidsNe l
theorem St8.ok {m : Mem} {s : Nat} {F : List Nat} {arms : AV} {most : Int} {l : List ND} (h : St8 m s F arms most l) : ∀ x ∈ l, x.ok := by
  obtain ⟨p, na, T, h, _⟩ := h
  exact h.ok
theorem Inv3.app {m m' : Mem} {s : Nat} {F : List Nat} {arms : AV} {l : List ND} {x : AV} {T : List Nat} (h : Inv3 m s F arms l x T) (f : Fr m m' []) : Inv3 m' s F arms l x T :=
  ⟨h.st.app f, nr_move h.nr fun k hk => f.get k (nr_lt h.nr k hk) (by simp), h.dj, h.kn⟩
/-- Behind a call on the store. -/
theorem nr_after {m m' : Mem} {s : Nat} {F F' : List Nat} {arms : AV} {l : List ND} {x : AV} {T : List Nat} (h : Inv3 m s F arms l x T) (f : Fr m m' F) (g : Gr m F F') : NR 39 m' x l T ∧ ∀ k ∈ F', k ∉ T :=
  ⟨nr_move h.nr fun k hk => f.get k (nr_lt h.nr k hk) (fun hF => h.dj k hF hk), fun k hk hT => by
    rcases g k hk with h1 | h1
    · exact h.dj k h1 hT
    · have := nr_lt h.nr k hT; omega⟩
theorem kidsNe_ins {l : List ND} (h : kidsNe l) {n : ND} (hn : ¬ n.var < 0 → n.kids ≠ []) : kidsNe (ins l n) := by
  unfold ins
  split
  · exact h
  · intro x hx
    rcases List.mem_append.1 hx with hx | hx
    · exact h x hx
    · obtain rfl : x = n := by simpa using hx
      exact hn
theorem ins_len (l : List ND) (n : ND) : (ins l n).length ≤ l.length + 1 := by unfold ins; split <;> simp
/-- The law's own row follows. -/
theorem both_put {m m2 : Mem} {s : Nat} {F F2 : List Nat} {arms : AV} {l : List ND} {x : AV} {T : List Nat} (h : Inv3 m s F arms l x T) {n : ND} (hn : n.ok) (hne : ¬ n.var < 0 → n.kids ≠ []) {z : Bool} {o : Own} (hk : stripA (.lst none z o (n.kids.map (AV.int .i64))) = kidsA n) (hl : l.length ≤ 1000)
    (k1 : St8 m2 s F2 arms 4000 (ins l n)) (f : Fr m m2 F) (g : Gr m F F2) :
    ∃ m3 x3 T3, AC cfg 16 [x, .agg [.int .i64 n.var, .lst none z o (n.kids.map (AV.int .i64)), .int .i64 n.leaf]] m2 = some (.tup [x3, .int .i64 (l.idxOf n : Nat)], m3) ∧ Inv3 m3 s F2 arms (ins l n) x3 T3 ∧ Fr m2 m3 T := by
  obtain ⟨n1, n2⟩ := nr_after h f g
  obtain ⟨m3, x3, T3, e, a1, a2, a3⟩ := A16 n1 h.st.ok hn hk (by omega)
  refine ⟨m3, x3, T3, e, ⟨k1.fr a2 n2, a1, fun k hk hT => ?_, kidsNe_ins h.kn hne⟩, a2⟩
  rcases a3 k hT with h1 | h1
  · exact n2 k hk h1
  · have := k1.lt k hk; omega
theorem W3 {z zs zl : Bool} {o os ol : Own} {ar : List Int} {s : Nat} (har : armsE ar = 0) (sts : List SP) (hz : ∀ x ∈ sts, x.kz = true → x.kids = []) (hlen : sts.length ≤ 60) (fin : ∀ m F x l T, Inv3 m s F (IA zs os ar) l x T → l.length ≤ 60 → ∃ m', K3_10 (finK cfg.P f3.results.toList) (.exit 0) (O3_10 (.ptr s 0) x m) = some (.bool true, m')) :
    ∀ (j i : Nat) (m : Mem) (F : List Nat) (l : List ND) (x : AV) (T : List Nat), i + j = sts.length → Inv3 m s F (IA zs os ar) l x T → l.length ≤ i →
      ∃ m', L3_10 (IA z o ar) (.ptr s 0) x (SL zl ol sts) (.int .i64 sts.length) (.int .i64 i) m (K3_10 (finK cfg.P f3.results.toList)) = some (.bool true, m') := by
  obtain ⟨har1, har2⟩ := armsE_ok har
  intro j
  induction j with
  | zero =>
    intro i m F l x T hi h hl
    rw [L3_10_eq, n_lss, Option.bind_some, ifA_dec, if_neg (by omega)]
    exact fin m F x l T h (by omega)
  | succ j ih =>
    intro i m F l x T hi h hl
    have hil : i < sts.length := by omega
    have hix := idx_SL (z := zl) (o := ol) hil
    have hzi := hz _ (List.getElem_mem hil)
    generalize sts[i] = sp at hix hzi
    obtain ⟨kind, a, kz, kids⟩ := sp
    simp only at hix hzi
    have sn := st_new3 (m := m) (a := .int .i64 0) (b := .int .i64 0) (c := .lst none true .full []) (a' := .int .i64 kind) (b' := .int .i64 a) (c' := IA kz .no kids) rfl
    have h4 := h.app (Fr.app m (some (Ent.obj true [.int .i64 kind, .int .i64 a, IA kz .no kids])) [])
    generalize hm4 : m ++ [some (Ent.obj true [.int .i64 kind, .int .i64 a, IA kz .no kids])] = m4 at sn h4
    have g4 : m4.get m.length = some (Ent.obj true [.int .i64 kind, .int .i64 a, IA kz .no kids]) := by rw [← hm4]; exact (by simp (disch := (first | assumption | omega | (simp only [List.length_append, List.length_set, List.length_cons, List.length_nil]; first | done | omega))) only [resv1, g_lt, g_eq, g_sne, g_seq]; first | done | rfl)
    have l4 : m4.length = m.length + 1 := by rw [← hm4]; simp
    have notF : m.length ∉ F := fun hx => by have := h.st.lt _ hx; omega
    rw [L3_10_eq, n_lss, Option.bind_some, ifA_dec, if_pos hil]
    repeat ((with_reducible (first | apply bs | apply bsy)); (focus (first | (simp (disch := (first | assumption | omega | (simp only [List.length_append, List.length_set, List.length_cons, List.length_nil]; first | done | omega))) only [List.all_cons, List.all_nil, Bool.and_true, Bool.and_self, beq_self_eq_true, resv1, List.length_map, ld_v3, ld_v1, binA_eql, binA_neq, binA_lss, binA_leq, binA_gtr, binA_geq, loadA_one, un_not, ld_ptr, st_ptr, putE1, objE_obj, Option.bind_some, cut1, cut3, cut4, nil_ptr, fa_ptr, g_lt, g_eq, g_sne, g_seq, new_n, box_n, List.getElem?_cons_zero, List.getElem?_cons_succ, ex0, ex1, Sh.size, cells_int, aok_int, cells_bool, aok_bool, cells_str, aok_str, cells_lst, aok_lst, cells_ptr, aok_ptr, cells_arr, aok_arr, cells_fn, aok_fn, cells_mref, aok_mref, cells_nilp, aok_nilp, cells_agg, shOk_n, shOk_s, lenA_lst, List.length_cons, List.length_nil, if_true, putAt, List.take_succ_cons, List.take_zero, List.drop_succ_cons, List.drop_zero, List.cons_append, List.nil_append, List.append_nil, Nat.zero_add, Nat.reduceAdd, Nat.reduceLeDiff, Nat.le_refl, List.drop_nil, List.take_nil, List.length_append, List.length_set, hix, sn, g4, rem2]; first | done | rfl) | rfl)); try dsimp only)
    rw [ifA_dec]
    by_cases hk : kind.tmod 2 = 0
    · rw [if_pos hk]
      obtain ⟨m2, F2, e15, k1, k2, k3⟩ := A15 h4.st a (by omega) (by omega)
      have g2 : m2.get m.length = some (Ent.obj true [.int .i64 kind, .int .i64 a, IA kz .no kids]) := (k2.get _ (by omega) notF).trans g4
      by_cases ha : 0 ≤ a ∧ a ≤ 2147483647
      · rw [leafR, if_pos ha] at e15 k1
        dsimp only at e15 k1
        obtain ⟨m3, x3, T3, e16, k4, k5⟩ := both_put h4 (leafN_ok ha) (fun hv => absurd (show (-1 : Int) < 0 by decide) hv) (z := true) (o := .full) rfl (by omega) k1 k2 k3
        have e16 : AC cfg 16 [x, .agg [.int .i64 (-1), .lst none true .full [], .int .i64 a]] m2 = _ := e16
        have e20 := A20 k4.st (by omega)
        have hb : buildA (.agg [(.int .i64 0), (.lst none true .full []), (.int .i64 0)]) [(0, none, (.int .i64 (-1))), (2, none, .int .i64 a)] = some (.agg [.int .i64 (-1), .lst none true .full [], .int .i64 a]) := rfl
        repeat ((with_reducible (first | apply bs | apply bsy)); (focus (first | (simp (disch := (first | assumption | omega | (simp only [List.length_append, List.length_set, List.length_cons, List.length_nil]; first | done | omega))) only [List.all_cons, List.all_nil, Bool.and_true, Bool.and_self, beq_self_eq_true, resv1, List.length_map, ld_v3, ld_v1, binA_eql, binA_neq, binA_lss, binA_leq, binA_gtr, binA_geq, loadA_one, un_not, ld_ptr, st_ptr, putE1, objE_obj, Option.bind_some, cut1, cut3, cut4, nil_ptr, fa_ptr, g_lt, g_eq, g_sne, g_seq, new_n, box_n, List.getElem?_cons_zero, List.getElem?_cons_succ, ex0, ex1, Sh.size, cells_int, aok_int, cells_bool, aok_bool, cells_str, aok_str, cells_lst, aok_lst, cells_ptr, aok_ptr, cells_arr, aok_arr, cells_fn, aok_fn, cells_mref, aok_mref, cells_nilp, aok_nilp, cells_agg, shOk_n, shOk_s, lenA_lst, List.length_cons, List.length_nil, if_true, putAt, List.take_succ_cons, List.take_zero, List.drop_succ_cons, List.drop_zero, List.cons_append, List.nil_append, List.append_nil, Nat.zero_add, Nat.reduceAdd, Nat.reduceLeDiff, Nat.le_refl, List.drop_nil, List.take_nil, List.length_append, List.length_set, g4, e15, g2]; first | done | rfl) | rfl)); try dsimp only)
        rw [ifA_dec, if_pos ha.1]
        repeat ((with_reducible (first | apply bs | apply bsy)); (focus (first | (simp (disch := (first | assumption | omega | (simp only [List.length_append, List.length_set, List.length_cons, List.length_nil]; first | done | omega))) only [List.all_cons, List.all_nil, Bool.and_true, Bool.and_self, beq_self_eq_true, resv1, List.length_map, ld_v3, ld_v1, binA_eql, binA_neq, binA_lss, binA_leq, binA_gtr, binA_geq, loadA_one, un_not, ld_ptr, st_ptr, putE1, objE_obj, Option.bind_some, cut1, cut3, cut4, nil_ptr, fa_ptr, g_lt, g_eq, g_sne, g_seq, new_n, box_n, List.getElem?_cons_zero, List.getElem?_cons_succ, ex0, ex1, Sh.size, cells_int, aok_int, cells_bool, aok_bool, cells_str, aok_str, cells_lst, aok_lst, cells_ptr, aok_ptr, cells_arr, aok_arr, cells_fn, aok_fn, cells_mref, aok_mref, cells_nilp, aok_nilp, cells_agg, shOk_n, shOk_s, lenA_lst, List.length_cons, List.length_nil, if_true, putAt, List.take_succ_cons, List.take_zero, List.drop_succ_cons, List.drop_zero, List.cons_append, List.nil_append, List.append_nil, Nat.zero_add, Nat.reduceAdd, Nat.reduceLeDiff, Nat.le_refl, List.drop_nil, List.take_nil, List.length_append, List.length_set, g2]; first | done | rfl) | rfl)); try dsimp only)
        rw [ifA_dec, if_pos ha.2]
        repeat ((with_reducible (first | apply bs | apply bsy)); (focus (first | (simp (disch := (first | assumption | omega | (simp only [List.length_append, List.length_set, List.length_cons, List.length_nil]; first | done | omega))) only [List.all_cons, List.all_nil, Bool.and_true, Bool.and_self, beq_self_eq_true, resv1, List.length_map, ld_v3, ld_v1, binA_eql, binA_neq, binA_lss, binA_leq, binA_gtr, binA_geq, loadA_one, un_not, ld_ptr, st_ptr, putE1, objE_obj, Option.bind_some, cut1, cut3, cut4, nil_ptr, fa_ptr, g_lt, g_eq, g_sne, g_seq, new_n, box_n, List.getElem?_cons_zero, List.getElem?_cons_succ, ex0, ex1, Sh.size, cells_int, aok_int, cells_bool, aok_bool, cells_str, aok_str, cells_lst, aok_lst, cells_ptr, aok_ptr, cells_arr, aok_arr, cells_fn, aok_fn, cells_mref, aok_mref, cells_nilp, aok_nilp, cells_agg, shOk_n, shOk_s, lenA_lst, List.length_cons, List.length_nil, if_true, putAt, List.take_succ_cons, List.take_zero, List.drop_succ_cons, List.drop_zero, List.cons_append, List.nil_append, List.append_nil, Nat.zero_add, Nat.reduceAdd, Nat.reduceLeDiff, Nat.le_refl, List.drop_nil, List.take_nil, List.length_append, List.length_set, g2, hb, e16]; first | done | rfl) | rfl)); try dsimp only)
        rw [ifA_dec, if_neg (by simp)]
        repeat ((with_reducible (first | apply bs | apply bsy)); (focus (first | (simp (disch := (first | assumption | omega | (simp only [List.length_append, List.length_set, List.length_cons, List.length_nil]; first | done | omega))) only [List.all_cons, List.all_nil, Bool.and_true, Bool.and_self, beq_self_eq_true, resv1, List.length_map, ld_v3, ld_v1, binA_eql, binA_neq, binA_lss, binA_leq, binA_gtr, binA_geq, loadA_one, un_not, ld_ptr, st_ptr, putE1, objE_obj, Option.bind_some, cut1, cut3, cut4, nil_ptr, fa_ptr, g_lt, g_eq, g_sne, g_seq, new_n, box_n, List.getElem?_cons_zero, List.getElem?_cons_succ, ex0, ex1, Sh.size, cells_int, aok_int, cells_bool, aok_bool, cells_str, aok_str, cells_lst, aok_lst, cells_ptr, aok_ptr, cells_arr, aok_arr, cells_fn, aok_fn, cells_mref, aok_mref, cells_nilp, aok_nilp, cells_agg, shOk_n, shOk_s, lenA_lst, List.length_cons, List.length_nil, if_true, putAt, List.take_succ_cons, List.take_zero, List.drop_succ_cons, List.drop_zero, List.cons_append, List.nil_append, List.append_nil, Nat.zero_add, Nat.reduceAdd, Nat.reduceLeDiff, Nat.le_refl, List.drop_nil, List.take_nil, List.length_append, List.length_set]; first | done | rfl) | rfl)); try dsimp only)
        rw [ifA_dec, if_neg (by simp)]
        repeat ((with_reducible (first | apply bs | apply bsy)); (focus (first | (simp (disch := (first | assumption | omega | (simp only [List.length_append, List.length_set, List.length_cons, List.length_nil]; first | done | omega))) only [List.all_cons, List.all_nil, Bool.and_true, Bool.and_self, beq_self_eq_true, resv1, List.length_map, ld_v3, ld_v1, binA_eql, binA_neq, binA_lss, binA_leq, binA_gtr, binA_geq, loadA_one, un_not, ld_ptr, st_ptr, putE1, objE_obj, Option.bind_some, cut1, cut3, cut4, nil_ptr, fa_ptr, g_lt, g_eq, g_sne, g_seq, new_n, box_n, List.getElem?_cons_zero, List.getElem?_cons_succ, ex0, ex1, Sh.size, cells_int, aok_int, cells_bool, aok_bool, cells_str, aok_str, cells_lst, aok_lst, cells_ptr, aok_ptr, cells_arr, aok_arr, cells_fn, aok_fn, cells_mref, aok_mref, cells_nilp, aok_nilp, cells_agg, shOk_n, shOk_s, lenA_lst, List.length_cons, List.length_nil, if_true, putAt, List.take_succ_cons, List.take_zero, List.drop_succ_cons, List.drop_zero, List.cons_append, List.nil_append, List.append_nil, Nat.zero_add, Nat.reduceAdd, Nat.reduceLeDiff, Nat.le_refl, List.drop_nil, List.take_nil, List.length_append, List.length_set, e20, nr_len k4.nr]; first | done | rfl) | rfl)); try dsimp only)
        rw [ifA_dec, if_neg (by simp), i_add1 (by omega), Option.bind_some]
        exact ih (i + 1) m3 F2 _ x3 T3 (by omega) k4 (by have := ins_len l (leafN a); omega)
      · rw [leafR, if_neg ha] at e15 k1
        dsimp only at e15 k1
        obtain ⟨n1, n2⟩ := nr_after h4 k2 k3
        have e20 := A20 k1 (by omega)
        have nxt := ih (i + 1) m2 F2 l x T (by omega) ⟨k1, n1, n2, h.kn⟩ (by omega)
        have ln := nr_len n1
        repeat ((with_reducible (first | apply bs | apply bsy)); (focus (first | (simp (disch := (first | assumption | omega | (simp only [List.length_append, List.length_set, List.length_cons, List.length_nil]; first | done | omega))) only [List.all_cons, List.all_nil, Bool.and_true, Bool.and_self, beq_self_eq_true, resv1, List.length_map, ld_v3, ld_v1, binA_eql, binA_neq, binA_lss, binA_leq, binA_gtr, binA_geq, loadA_one, un_not, ld_ptr, st_ptr, putE1, objE_obj, Option.bind_some, cut1, cut3, cut4, nil_ptr, fa_ptr, g_lt, g_eq, g_sne, g_seq, new_n, box_n, List.getElem?_cons_zero, List.getElem?_cons_succ, ex0, ex1, Sh.size, cells_int, aok_int, cells_bool, aok_bool, cells_str, aok_str, cells_lst, aok_lst, cells_ptr, aok_ptr, cells_arr, aok_arr, cells_fn, aok_fn, cells_mref, aok_mref, cells_nilp, aok_nilp, cells_agg, shOk_n, shOk_s, lenA_lst, List.length_cons, List.length_nil, if_true, putAt, List.take_succ_cons, List.take_zero, List.drop_succ_cons, List.drop_zero, List.cons_append, List.nil_append, List.append_nil, Nat.zero_add, Nat.reduceAdd, Nat.reduceLeDiff, Nat.le_refl, List.drop_nil, List.take_nil, List.length_append, List.length_set, g4, e15, g2]; first | done | rfl) | rfl)); try dsimp only)
        rw [ifA_dec]
        by_cases ha0 : a ≥ 0
        · rw [if_pos ha0]
          repeat ((with_reducible (first | apply bs | apply bsy)); (focus (first | (simp (disch := (first | assumption | omega | (simp only [List.length_append, List.length_set, List.length_cons, List.length_nil]; first | done | omega))) only [List.all_cons, List.all_nil, Bool.and_true, Bool.and_self, beq_self_eq_true, resv1, List.length_map, ld_v3, ld_v1, binA_eql, binA_neq, binA_lss, binA_leq, binA_gtr, binA_geq, loadA_one, un_not, ld_ptr, st_ptr, putE1, objE_obj, Option.bind_some, cut1, cut3, cut4, nil_ptr, fa_ptr, g_lt, g_eq, g_sne, g_seq, new_n, box_n, List.getElem?_cons_zero, List.getElem?_cons_succ, ex0, ex1, Sh.size, cells_int, aok_int, cells_bool, aok_bool, cells_str, aok_str, cells_lst, aok_lst, cells_ptr, aok_ptr, cells_arr, aok_arr, cells_fn, aok_fn, cells_mref, aok_mref, cells_nilp, aok_nilp, cells_agg, shOk_n, shOk_s, lenA_lst, List.length_cons, List.length_nil, if_true, putAt, List.take_succ_cons, List.take_zero, List.drop_succ_cons, List.drop_zero, List.cons_append, List.nil_append, List.append_nil, Nat.zero_add, Nat.reduceAdd, Nat.reduceLeDiff, Nat.le_refl, List.drop_nil, List.take_nil, List.length_append, List.length_set, g2]; first | done | rfl) | rfl)); try dsimp only)
          rw [ifA_dec, if_neg (by omega)]
          repeat ((with_reducible (first | apply bs | apply bsy)); (focus (first | (simp (disch := (first | assumption | omega | (simp only [List.length_append, List.length_set, List.length_cons, List.length_nil]; first | done | omega))) only [List.all_cons, List.all_nil, Bool.and_true, Bool.and_self, beq_self_eq_true, resv1, List.length_map, ld_v3, ld_v1, binA_eql, binA_neq, binA_lss, binA_leq, binA_gtr, binA_geq, loadA_one, un_not, ld_ptr, st_ptr, putE1, objE_obj, Option.bind_some, cut1, cut3, cut4, nil_ptr, fa_ptr, g_lt, g_eq, g_sne, g_seq, new_n, box_n, List.getElem?_cons_zero, List.getElem?_cons_succ, ex0, ex1, Sh.size, cells_int, aok_int, cells_bool, aok_bool, cells_str, aok_str, cells_lst, aok_lst, cells_ptr, aok_ptr, cells_arr, aok_arr, cells_fn, aok_fn, cells_mref, aok_mref, cells_nilp, aok_nilp, cells_agg, shOk_n, shOk_s, lenA_lst, List.length_cons, List.length_nil, if_true, putAt, List.take_succ_cons, List.take_zero, List.drop_succ_cons, List.drop_zero, List.cons_append, List.nil_append, List.append_nil, Nat.zero_add, Nat.reduceAdd, Nat.reduceLeDiff, Nat.le_refl, List.drop_nil, List.take_nil, List.length_append, List.length_set]; first | done | rfl) | rfl)); try dsimp only)
          rw [ifA_dec, if_neg (by simp)]
          repeat ((with_reducible (first | apply bs | apply bsy)); (focus (first | (simp (disch := (first | assumption | omega | (simp only [List.length_append, List.length_set, List.length_cons, List.length_nil]; first | done | omega))) only [List.all_cons, List.all_nil, Bool.and_true, Bool.and_self, beq_self_eq_true, resv1, List.length_map, ld_v3, ld_v1, binA_eql, binA_neq, binA_lss, binA_leq, binA_gtr, binA_geq, loadA_one, un_not, ld_ptr, st_ptr, putE1, objE_obj, Option.bind_some, cut1, cut3, cut4, nil_ptr, fa_ptr, g_lt, g_eq, g_sne, g_seq, new_n, box_n, List.getElem?_cons_zero, List.getElem?_cons_succ, ex0, ex1, Sh.size, cells_int, aok_int, cells_bool, aok_bool, cells_str, aok_str, cells_lst, aok_lst, cells_ptr, aok_ptr, cells_arr, aok_arr, cells_fn, aok_fn, cells_mref, aok_mref, cells_nilp, aok_nilp, cells_agg, shOk_n, shOk_s, lenA_lst, List.length_cons, List.length_nil, if_true, putAt, List.take_succ_cons, List.take_zero, List.drop_succ_cons, List.drop_zero, List.cons_append, List.nil_append, List.append_nil, Nat.zero_add, Nat.reduceAdd, Nat.reduceLeDiff, Nat.le_refl, List.drop_nil, List.take_nil, List.length_append, List.length_set]; first | done | rfl) | rfl)); try dsimp only)
          rw [ifA_dec, if_neg (by simp)]
          repeat ((with_reducible (first | apply bs | apply bsy)); (focus (first | (simp (disch := (first | assumption | omega | (simp only [List.length_append, List.length_set, List.length_cons, List.length_nil]; first | done | omega))) only [List.all_cons, List.all_nil, Bool.and_true, Bool.and_self, beq_self_eq_true, resv1, List.length_map, ld_v3, ld_v1, binA_eql, binA_neq, binA_lss, binA_leq, binA_gtr, binA_geq, loadA_one, un_not, ld_ptr, st_ptr, putE1, objE_obj, Option.bind_some, cut1, cut3, cut4, nil_ptr, fa_ptr, g_lt, g_eq, g_sne, g_seq, new_n, box_n, List.getElem?_cons_zero, List.getElem?_cons_succ, ex0, ex1, Sh.size, cells_int, aok_int, cells_bool, aok_bool, cells_str, aok_str, cells_lst, aok_lst, cells_ptr, aok_ptr, cells_arr, aok_arr, cells_fn, aok_fn, cells_mref, aok_mref, cells_nilp, aok_nilp, cells_agg, shOk_n, shOk_s, lenA_lst, List.length_cons, List.length_nil, if_true, putAt, List.take_succ_cons, List.take_zero, List.drop_succ_cons, List.drop_zero, List.cons_append, List.nil_append, List.append_nil, Nat.zero_add, Nat.reduceAdd, Nat.reduceLeDiff, Nat.le_refl, List.drop_nil, List.take_nil, List.length_append, List.length_set, e20, ln]; first | done | rfl) | rfl)); try dsimp only)
          rw [ifA_dec, if_neg (by simp), i_add1 (by omega), Option.bind_some]
          exact nxt
        · rw [if_neg ha0]
          repeat ((with_reducible (first | apply bs | apply bsy)); (focus (first | (simp (disch := (first | assumption | omega | (simp only [List.length_append, List.length_set, List.length_cons, List.length_nil]; first | done | omega))) only [List.all_cons, List.all_nil, Bool.and_true, Bool.and_self, beq_self_eq_true, resv1, List.length_map, ld_v3, ld_v1, binA_eql, binA_neq, binA_lss, binA_leq, binA_gtr, binA_geq, loadA_one, un_not, ld_ptr, st_ptr, putE1, objE_obj, Option.bind_some, cut1, cut3, cut4, nil_ptr, fa_ptr, g_lt, g_eq, g_sne, g_seq, new_n, box_n, List.getElem?_cons_zero, List.getElem?_cons_succ, ex0, ex1, Sh.size, cells_int, aok_int, cells_bool, aok_bool, cells_str, aok_str, cells_lst, aok_lst, cells_ptr, aok_ptr, cells_arr, aok_arr, cells_fn, aok_fn, cells_mref, aok_mref, cells_nilp, aok_nilp, cells_agg, shOk_n, shOk_s, lenA_lst, List.length_cons, List.length_nil, if_true, putAt, List.take_succ_cons, List.take_zero, List.drop_succ_cons, List.drop_zero, List.cons_append, List.nil_append, List.append_nil, Nat.zero_add, Nat.reduceAdd, Nat.reduceLeDiff, Nat.le_refl, List.drop_nil, List.take_nil, List.length_append, List.length_set]; first | done | rfl) | rfl)); try dsimp only)
          rw [ifA_dec, if_neg (by simp)]
          repeat ((with_reducible (first | apply bs | apply bsy)); (focus (first | (simp (disch := (first | assumption | omega | (simp only [List.length_append, List.length_set, List.length_cons, List.length_nil]; first | done | omega))) only [List.all_cons, List.all_nil, Bool.and_true, Bool.and_self, beq_self_eq_true, resv1, List.length_map, ld_v3, ld_v1, binA_eql, binA_neq, binA_lss, binA_leq, binA_gtr, binA_geq, loadA_one, un_not, ld_ptr, st_ptr, putE1, objE_obj, Option.bind_some, cut1, cut3, cut4, nil_ptr, fa_ptr, g_lt, g_eq, g_sne, g_seq, new_n, box_n, List.getElem?_cons_zero, List.getElem?_cons_succ, ex0, ex1, Sh.size, cells_int, aok_int, cells_bool, aok_bool, cells_str, aok_str, cells_lst, aok_lst, cells_ptr, aok_ptr, cells_arr, aok_arr, cells_fn, aok_fn, cells_mref, aok_mref, cells_nilp, aok_nilp, cells_agg, shOk_n, shOk_s, lenA_lst, List.length_cons, List.length_nil, if_true, putAt, List.take_succ_cons, List.take_zero, List.drop_succ_cons, List.drop_zero, List.cons_append, List.nil_append, List.append_nil, Nat.zero_add, Nat.reduceAdd, Nat.reduceLeDiff, Nat.le_refl, List.drop_nil, List.take_nil, List.length_append, List.length_set]; first | done | rfl) | rfl)); try dsimp only)
          rw [ifA_dec, if_neg (by simp)]
          repeat ((with_reducible (first | apply bs | apply bsy)); (focus (first | (simp (disch := (first | assumption | omega | (simp only [List.length_append, List.length_set, List.length_cons, List.length_nil]; first | done | omega))) only [List.all_cons, List.all_nil, Bool.and_true, Bool.and_self, beq_self_eq_true, resv1, List.length_map, ld_v3, ld_v1, binA_eql, binA_neq, binA_lss, binA_leq, binA_gtr, binA_geq, loadA_one, un_not, ld_ptr, st_ptr, putE1, objE_obj, Option.bind_some, cut1, cut3, cut4, nil_ptr, fa_ptr, g_lt, g_eq, g_sne, g_seq, new_n, box_n, List.getElem?_cons_zero, List.getElem?_cons_succ, ex0, ex1, Sh.size, cells_int, aok_int, cells_bool, aok_bool, cells_str, aok_str, cells_lst, aok_lst, cells_ptr, aok_ptr, cells_arr, aok_arr, cells_fn, aok_fn, cells_mref, aok_mref, cells_nilp, aok_nilp, cells_agg, shOk_n, shOk_s, lenA_lst, List.length_cons, List.length_nil, if_true, putAt, List.take_succ_cons, List.take_zero, List.drop_succ_cons, List.drop_zero, List.cons_append, List.nil_append, List.append_nil, Nat.zero_add, Nat.reduceAdd, Nat.reduceLeDiff, Nat.le_refl, List.drop_nil, List.take_nil, List.length_append, List.length_set, e20, ln]; first | done | rfl) | rfl)); try dsimp only)
          rw [ifA_dec, if_neg (by simp), i_add1 (by omega), Option.bind_some]
          exact nxt
    · rw [if_neg hk]
      have hmin : maxA false (.int .i64 kids.length) (.int .i64 70) = some (.int .i64 (min kids.length 70 : Nat)) := by
        simp only [maxA, if_true, Bool.false_eq_true, if_false]
        congr 2
        split <;> omega
      have hsl := slice_IA kz .no kids .i64 (min kids.length 70) (by omega)
      have hkz : kz = true → kids.take (min kids.length 70) = [] := fun h => by rw [hzi h]; rfl
      have hkl : (kids.take (min kids.length 70)).length ≤ 70 := by rw [List.length_take]; omega
      generalize kids.take (min kids.length 70) = ks at hsl hkz hkl
      obtain ⟨m2, F2, e17, k1, k2, k3⟩ := A17 (kz := kz) (ko := .no) (ks := ks) h4.st a hkz har2 har1 (by omega) (by omega) (by omega)
      have g2 : m2.get m.length = some (Ent.obj true [.int .i64 kind, .int .i64 a, IA kz .no kids]) := (k2.get _ (by omega) notF).trans g4
      obtain ⟨x1, hx0, hx1, hx2⟩ := nr_fz h.nr
      have e18 := fun m => pc18 z kz o .no ar l x x1 hx0 hx1 hx2 a ks h.st.ok ⟨by omega, by omega⟩ none m
      repeat ((with_reducible (first | apply bs | apply bsy)); (focus (first | (simp (disch := (first | assumption | omega | (simp only [List.length_append, List.length_set, List.length_cons, List.length_nil]; first | done | omega))) only [List.all_cons, List.all_nil, Bool.and_true, Bool.and_self, beq_self_eq_true, resv1, List.length_map, ld_v3, ld_v1, binA_eql, binA_neq, binA_lss, binA_leq, binA_gtr, binA_geq, loadA_one, un_not, ld_ptr, st_ptr, putE1, objE_obj, Option.bind_some, cut1, cut3, cut4, nil_ptr, fa_ptr, g_lt, g_eq, g_sne, g_seq, new_n, box_n, List.getElem?_cons_zero, List.getElem?_cons_succ, ex0, ex1, Sh.size, cells_int, aok_int, cells_bool, aok_bool, cells_str, aok_str, cells_lst, aok_lst, cells_ptr, aok_ptr, cells_arr, aok_arr, cells_fn, aok_fn, cells_mref, aok_mref, cells_nilp, aok_nilp, cells_agg, shOk_n, shOk_s, lenA_lst, List.length_cons, List.length_nil, if_true, putAt, List.take_succ_cons, List.take_zero, List.drop_succ_cons, List.drop_zero, List.cons_append, List.nil_append, List.append_nil, Nat.zero_add, Nat.reduceAdd, Nat.reduceLeDiff, Nat.le_refl, List.drop_nil, List.take_nil, List.length_append, List.length_set, g4, hmin, hsl, e17, g2, e18]; first | done | rfl) | rfl)); try dsimp only)
      rw [makeR_eq] at k1 ⊢
      by_cases hm : mayB ar l a ks = true
      · rw [if_pos hm] at k1 ⊢
        dsimp only at k1 ⊢
        have hm' := hm
        unfold mayB at hm
        simp only [Bool.and_eq_true, decide_eq_true_eq] at hm
        obtain ⟨⟨ha0, ha1, hal⟩, hall⟩ := hm
        obtain ⟨t, rfl⟩ := Int.eq_ofNat_of_zero_le ha0
        have ht : t < ar.length := by omega
        have hai : ar.getD ((t : Int).toNat) 0 = ar[t] := by rw [Int.toNat_natCast, List.getD_eq_getElem?_getD, List.getElem?_eq_getElem ht, Option.getD_some]
        have hab := har2 ar[t] (List.getElem_mem ht)
        rw [hai] at hal
        have hne : ks ≠ [] := fun e => by rw [e] at hal; simp at hal; omega
        have hkf : kz = false := by cases kz with
          | false => rfl
          | true => exact absurd (hkz rfl) hne
        have e19 := fun m => pc19 kz .no ks hne (by omega) m
        rw [hm', ifA_t]
        repeat ((with_reducible (first | apply bs | apply bsy)); (focus (first | (simp (disch := (first | assumption | omega | (simp only [List.length_append, List.length_set, List.length_cons, List.length_nil]; first | done | omega))) only [List.all_cons, List.all_nil, Bool.and_true, Bool.and_self, beq_self_eq_true, resv1, List.length_map, ld_v3, ld_v1, binA_eql, binA_neq, binA_lss, binA_leq, binA_gtr, binA_geq, loadA_one, un_not, ld_ptr, st_ptr, putE1, objE_obj, Option.bind_some, cut1, cut3, cut4, nil_ptr, fa_ptr, g_lt, g_eq, g_sne, g_seq, new_n, box_n, List.getElem?_cons_zero, List.getElem?_cons_succ, ex0, ex1, Sh.size, cells_int, aok_int, cells_bool, aok_bool, cells_str, aok_str, cells_lst, aok_lst, cells_ptr, aok_ptr, cells_arr, aok_arr, cells_fn, aok_fn, cells_mref, aok_mref, cells_nilp, aok_nilp, cells_agg, shOk_n, shOk_s, lenA_lst, List.length_cons, List.length_nil, if_true, putAt, List.take_succ_cons, List.take_zero, List.drop_succ_cons, List.drop_zero, List.cons_append, List.nil_append, List.append_nil, Nat.zero_add, Nat.reduceAdd, Nat.reduceLeDiff, Nat.le_refl, List.drop_nil, List.take_nil, List.length_append, List.length_set, e19]; first | done | rfl) | rfl)); try dsimp only)
        obtain ⟨k0, kt, rfl⟩ := List.exists_cons_of_ne_nil hne
        rw [List.headD_cons]
        rw [nodeR_cons] at k1 ⊢
        have i0 := idx_IA0 (z := kz) (o := .no) (k := .i64) (ns := k0 :: kt) (by simp)
        by_cases hq : ((k0 :: kt).all fun k => k == k0) = true
        · rw [if_pos hq] at k1 ⊢
          dsimp only at k1 ⊢
          obtain ⟨n1, n2⟩ := nr_after h4 k2 k3
          have e20 := A20 k1 (by omega)
          have ln := nr_len n1
          rw [hq, ifA_t]
          repeat ((with_reducible (first | apply bs | apply bsy)); (focus (first | (simp (disch := (first | assumption | omega | (simp only [List.length_append, List.length_set, List.length_cons, List.length_nil]; first | done | omega))) only [List.all_cons, List.all_nil, Bool.and_true, Bool.and_self, beq_self_eq_true, resv1, List.length_map, ld_v3, ld_v1, binA_eql, binA_neq, binA_lss, binA_leq, binA_gtr, binA_geq, loadA_one, un_not, ld_ptr, st_ptr, putE1, objE_obj, Option.bind_some, cut1, cut3, cut4, nil_ptr, fa_ptr, g_lt, g_eq, g_sne, g_seq, new_n, box_n, List.getElem?_cons_zero, List.getElem?_cons_succ, ex0, ex1, Sh.size, cells_int, aok_int, cells_bool, aok_bool, cells_str, aok_str, cells_lst, aok_lst, cells_ptr, aok_ptr, cells_arr, aok_arr, cells_fn, aok_fn, cells_mref, aok_mref, cells_nilp, aok_nilp, cells_agg, shOk_n, shOk_s, lenA_lst, List.length_cons, List.length_nil, if_true, putAt, List.take_succ_cons, List.take_zero, List.drop_succ_cons, List.drop_zero, List.cons_append, List.nil_append, List.append_nil, Nat.zero_add, Nat.reduceAdd, Nat.reduceLeDiff, Nat.le_refl, List.drop_nil, List.take_nil, List.length_append, List.length_set, i0]; first | done | rfl) | rfl)); try dsimp only)
          rw [ifA_dec, if_neg (by simp)]
          repeat ((with_reducible (first | apply bs | apply bsy)); (focus (first | (simp (disch := (first | assumption | omega | (simp only [List.length_append, List.length_set, List.length_cons, List.length_nil]; first | done | omega))) only [List.all_cons, List.all_nil, Bool.and_true, Bool.and_self, beq_self_eq_true, resv1, List.length_map, ld_v3, ld_v1, binA_eql, binA_neq, binA_lss, binA_leq, binA_gtr, binA_geq, loadA_one, un_not, ld_ptr, st_ptr, putE1, objE_obj, Option.bind_some, cut1, cut3, cut4, nil_ptr, fa_ptr, g_lt, g_eq, g_sne, g_seq, new_n, box_n, List.getElem?_cons_zero, List.getElem?_cons_succ, ex0, ex1, Sh.size, cells_int, aok_int, cells_bool, aok_bool, cells_str, aok_str, cells_lst, aok_lst, cells_ptr, aok_ptr, cells_arr, aok_arr, cells_fn, aok_fn, cells_mref, aok_mref, cells_nilp, aok_nilp, cells_agg, shOk_n, shOk_s, lenA_lst, List.length_cons, List.length_nil, if_true, putAt, List.take_succ_cons, List.take_zero, List.drop_succ_cons, List.drop_zero, List.cons_append, List.nil_append, List.append_nil, Nat.zero_add, Nat.reduceAdd, Nat.reduceLeDiff, Nat.le_refl, List.drop_nil, List.take_nil, List.length_append, List.length_set]; first | done | rfl) | rfl)); try dsimp only)
          rw [ifA_dec, if_neg (by simp)]
          repeat ((with_reducible (first | apply bs | apply bsy)); (focus (first | (simp (disch := (first | assumption | omega | (simp only [List.length_append, List.length_set, List.length_cons, List.length_nil]; first | done | omega))) only [List.all_cons, List.all_nil, Bool.and_true, Bool.and_self, beq_self_eq_true, resv1, List.length_map, ld_v3, ld_v1, binA_eql, binA_neq, binA_lss, binA_leq, binA_gtr, binA_geq, loadA_one, un_not, ld_ptr, st_ptr, putE1, objE_obj, Option.bind_some, cut1, cut3, cut4, nil_ptr, fa_ptr, g_lt, g_eq, g_sne, g_seq, new_n, box_n, List.getElem?_cons_zero, List.getElem?_cons_succ, ex0, ex1, Sh.size, cells_int, aok_int, cells_bool, aok_bool, cells_str, aok_str, cells_lst, aok_lst, cells_ptr, aok_ptr, cells_arr, aok_arr, cells_fn, aok_fn, cells_mref, aok_mref, cells_nilp, aok_nilp, cells_agg, shOk_n, shOk_s, lenA_lst, List.length_cons, List.length_nil, if_true, putAt, List.take_succ_cons, List.take_zero, List.drop_succ_cons, List.drop_zero, List.cons_append, List.nil_append, List.append_nil, Nat.zero_add, Nat.reduceAdd, Nat.reduceLeDiff, Nat.le_refl, List.drop_nil, List.take_nil, List.length_append, List.length_set, e20, ln]; first | done | rfl) | rfl)); try dsimp only)
          rw [ifA_dec, if_neg (by simp), i_add1 (by omega), Option.bind_some]
          exact ih (i + 1) m2 F2 l x T (by omega) ⟨k1, n1, n2, h.kn⟩ (by omega)
        · rw [if_neg hq] at k1 ⊢
          dsimp only at k1 ⊢
          have hq' : ((k0 :: kt).all fun k => k == k0) = false := by simpa using hq
          rw [hq', ifA_f]
          obtain ⟨o', m3, ea, f3, ho⟩ := app_ints m2 kz .no (k0 :: kt) (by omega)
          have ho : o' = .tok m2.length 3 := ho.resolve_left (fun h => by cases h.2)
          have g3 : m3.get m.length = some (Ent.obj true [.int .i64 kind, .int .i64 t, IA kz .no kids]) := (f3.get _ (get_lt g2) (by simp)).trans g2
          have hn : (nodeN t (k0 :: kt)).ok := by
            refine .inr ⟨by simp only [nodeN]; omega, by simp only [nodeN]; omega, rfl, fun k hk' => ?_, by simp only [nodeN]; omega⟩
            have := List.all_eq_true.1 hall k hk'
            unfold kidOk at this
            simp only [Bool.and_eq_true, decide_eq_true_eq] at this
            omega
          have hv : ¬ (nodeN t (k0 :: kt)).var < 0 := by simp only [nodeN]; omega
          have hstr : stripA (.lst none false o' (((nodeN t (k0 :: kt)).kids).map (AV.int .i64))) = kidsA (nodeN t (k0 :: kt)) := by
            unfold kidsA
            rw [if_neg hv, ho]; rfl
          obtain ⟨m5, x5, T5, e16, k4, k5⟩ := both_put h4 hn (fun _ => by simp [nodeN]) hstr (by omega) (k1.app f3) (Fr.trans k2 f3 fun _ h => by cases h) k3
          have e16 : AC cfg 16 [x, .agg [.int .i64 t, IA false o' (k0 :: kt), .int .i64 0]] m3 = _ := e16
          have e20 := A20 k4.st (by omega)
          have hb : buildA (.agg [(.int .i64 0), (.lst none true .full []), (.int .i64 0)]) [(0, none, .int .i64 t), (1, none, IA false o' (k0 :: kt))] = some (.agg [.int .i64 t, IA false o' (k0 :: kt), .int .i64 0]) := rfl
          have hbs0 : buildSliceA none [] = some (.lst none false .full []) := rfl
          repeat ((with_reducible (first | apply bs | apply bsy)); (focus (first | (simp (disch := (first | assumption | omega | (simp only [List.length_append, List.length_set, List.length_cons, List.length_nil]; first | done | omega))) only [List.all_cons, List.all_nil, Bool.and_true, Bool.and_self, beq_self_eq_true, resv1, List.length_map, ld_v3, ld_v1, binA_eql, binA_neq, binA_lss, binA_leq, binA_gtr, binA_geq, loadA_one, un_not, ld_ptr, st_ptr, putE1, objE_obj, Option.bind_some, cut1, cut3, cut4, nil_ptr, fa_ptr, g_lt, g_eq, g_sne, g_seq, new_n, box_n, List.getElem?_cons_zero, List.getElem?_cons_succ, ex0, ex1, Sh.size, cells_int, aok_int, cells_bool, aok_bool, cells_str, aok_str, cells_lst, aok_lst, cells_ptr, aok_ptr, cells_arr, aok_arr, cells_fn, aok_fn, cells_mref, aok_mref, cells_nilp, aok_nilp, cells_agg, shOk_n, shOk_s, lenA_lst, List.length_cons, List.length_nil, if_true, putAt, List.take_succ_cons, List.take_zero, List.drop_succ_cons, List.drop_zero, List.cons_append, List.nil_append, List.append_nil, Nat.zero_add, Nat.reduceAdd, Nat.reduceLeDiff, Nat.le_refl, List.drop_nil, List.take_nil, List.length_append, List.length_set, g2, hbs0, ea]; first | done | rfl) | rfl)); try dsimp only)
          rw [ifP_pos (by simp only [new_n, ld_ptr, g3, objE_obj, Option.bind_some]; rfl)]
          repeat ((with_reducible (first | apply bs | apply bsy)); (focus (first | (simp (disch := (first | assumption | omega | (simp only [List.length_append, List.length_set, List.length_cons, List.length_nil]; first | done | omega))) only [List.all_cons, List.all_nil, Bool.and_true, Bool.and_self, beq_self_eq_true, resv1, List.length_map, ld_v3, ld_v1, binA_eql, binA_neq, binA_lss, binA_leq, binA_gtr, binA_geq, loadA_one, un_not, ld_ptr, st_ptr, putE1, objE_obj, Option.bind_some, cut1, cut3, cut4, nil_ptr, fa_ptr, g_lt, g_eq, g_sne, g_seq, new_n, box_n, List.getElem?_cons_zero, List.getElem?_cons_succ, ex0, ex1, Sh.size, cells_int, aok_int, cells_bool, aok_bool, cells_str, aok_str, cells_lst, aok_lst, cells_ptr, aok_ptr, cells_arr, aok_arr, cells_fn, aok_fn, cells_mref, aok_mref, cells_nilp, aok_nilp, cells_agg, shOk_n, shOk_s, lenA_lst, List.length_cons, List.length_nil, if_true, putAt, List.take_succ_cons, List.take_zero, List.drop_succ_cons, List.drop_zero, List.cons_append, List.nil_append, List.append_nil, Nat.zero_add, Nat.reduceAdd, Nat.reduceLeDiff, Nat.le_refl, List.drop_nil, List.take_nil, List.length_append, List.length_set, hb, e16]; first | done | rfl) | rfl)); try dsimp only)
          rw [ifA_dec, if_neg (by simp)]
          repeat ((with_reducible (first | apply bs | apply bsy)); (focus (first | (simp (disch := (first | assumption | omega | (simp only [List.length_append, List.length_set, List.length_cons, List.length_nil]; first | done | omega))) only [List.all_cons, List.all_nil, Bool.and_true, Bool.and_self, beq_self_eq_true, resv1, List.length_map, ld_v3, ld_v1, binA_eql, binA_neq, binA_lss, binA_leq, binA_gtr, binA_geq, loadA_one, un_not, ld_ptr, st_ptr, putE1, objE_obj, Option.bind_some, cut1, cut3, cut4, nil_ptr, fa_ptr, g_lt, g_eq, g_sne, g_seq, new_n, box_n, List.getElem?_cons_zero, List.getElem?_cons_succ, ex0, ex1, Sh.size, cells_int, aok_int, cells_bool, aok_bool, cells_str, aok_str, cells_lst, aok_lst, cells_ptr, aok_ptr, cells_arr, aok_arr, cells_fn, aok_fn, cells_mref, aok_mref, cells_nilp, aok_nilp, cells_agg, shOk_n, shOk_s, lenA_lst, List.length_cons, List.length_nil, if_true, putAt, List.take_succ_cons, List.take_zero, List.drop_succ_cons, List.drop_zero, List.cons_append, List.nil_append, List.append_nil, Nat.zero_add, Nat.reduceAdd, Nat.reduceLeDiff, Nat.le_refl, List.drop_nil, List.take_nil, List.length_append, List.length_set]; first | done | rfl) | rfl)); try dsimp only)
          rw [ifA_dec, if_neg (by simp)]
          repeat ((with_reducible (first | apply bs | apply bsy)); (focus (first | (simp (disch := (first | assumption | omega | (simp only [List.length_append, List.length_set, List.length_cons, List.length_nil]; first | done | omega))) only [List.all_cons, List.all_nil, Bool.and_true, Bool.and_self, beq_self_eq_true, resv1, List.length_map, ld_v3, ld_v1, binA_eql, binA_neq, binA_lss, binA_leq, binA_gtr, binA_geq, loadA_one, un_not, ld_ptr, st_ptr, putE1, objE_obj, Option.bind_some, cut1, cut3, cut4, nil_ptr, fa_ptr, g_lt, g_eq, g_sne, g_seq, new_n, box_n, List.getElem?_cons_zero, List.getElem?_cons_succ, ex0, ex1, Sh.size, cells_int, aok_int, cells_bool, aok_bool, cells_str, aok_str, cells_lst, aok_lst, cells_ptr, aok_ptr, cells_arr, aok_arr, cells_fn, aok_fn, cells_mref, aok_mref, cells_nilp, aok_nilp, cells_agg, shOk_n, shOk_s, lenA_lst, List.length_cons, List.length_nil, if_true, putAt, List.take_succ_cons, List.take_zero, List.drop_succ_cons, List.drop_zero, List.cons_append, List.nil_append, List.append_nil, Nat.zero_add, Nat.reduceAdd, Nat.reduceLeDiff, Nat.le_refl, List.drop_nil, List.take_nil, List.length_append, List.length_set, e20, nr_len k4.nr]; first | done | rfl) | rfl)); try dsimp only)
          rw [ifA_dec, if_neg (by simp), i_add1 (by omega), Option.bind_some]
          exact ih (i + 1) m5 F2 _ x5 T5 (by omega) k4 (by have := ins_len l (nodeN t (k0 :: kt)); omega)
      · rw [if_neg hm] at k1 ⊢
        dsimp only at k1 ⊢
        have hm' : mayB ar l a ks = false := by simpa using hm
        obtain ⟨n1, n2⟩ := nr_after h4 k2 k3
        have e20 := A20 k1 (by omega)
        have ln := nr_len n1
        rw [hm', ifA_f]
        repeat ((with_reducible (first | apply bs | apply bsy)); (focus (first | (simp (disch := (first | assumption | omega | (simp only [List.length_append, List.length_set, List.length_cons, List.length_nil]; first | done | omega))) only [List.all_cons, List.all_nil, Bool.and_true, Bool.and_self, beq_self_eq_true, resv1, List.length_map, ld_v3, ld_v1, binA_eql, binA_neq, binA_lss, binA_leq, binA_gtr, binA_geq, loadA_one, un_not, ld_ptr, st_ptr, putE1, objE_obj, Option.bind_some, cut1, cut3, cut4, nil_ptr, fa_ptr, g_lt, g_eq, g_sne, g_seq, new_n, box_n, List.getElem?_cons_zero, List.getElem?_cons_succ, ex0, ex1, Sh.size, cells_int, aok_int, cells_bool, aok_bool, cells_str, aok_str, cells_lst, aok_lst, cells_ptr, aok_ptr, cells_arr, aok_arr, cells_fn, aok_fn, cells_mref, aok_mref, cells_nilp, aok_nilp, cells_agg, shOk_n, shOk_s, lenA_lst, List.length_cons, List.length_nil, if_true, putAt, List.take_succ_cons, List.take_zero, List.drop_succ_cons, List.drop_zero, List.cons_append, List.nil_append, List.append_nil, Nat.zero_add, Nat.reduceAdd, Nat.reduceLeDiff, Nat.le_refl, List.drop_nil, List.take_nil, List.length_append, List.length_set]; first | done | rfl) | rfl)); try dsimp only)
        rw [ifA_dec, if_neg (by simp)]
        repeat ((with_reducible (first | apply bs | apply bsy)); (focus (first | (simp (disch := (first | assumption | omega | (simp only [List.length_append, List.length_set, List.length_cons, List.length_nil]; first | done | omega))) only [List.all_cons, List.all_nil, Bool.and_true, Bool.and_self, beq_self_eq_true, resv1, List.length_map, ld_v3, ld_v1, binA_eql, binA_neq, binA_lss, binA_leq, binA_gtr, binA_geq, loadA_one, un_not, ld_ptr, st_ptr, putE1, objE_obj, Option.bind_some, cut1, cut3, cut4, nil_ptr, fa_ptr, g_lt, g_eq, g_sne, g_seq, new_n, box_n, List.getElem?_cons_zero, List.getElem?_cons_succ, ex0, ex1, Sh.size, cells_int, aok_int, cells_bool, aok_bool, cells_str, aok_str, cells_lst, aok_lst, cells_ptr, aok_ptr, cells_arr, aok_arr, cells_fn, aok_fn, cells_mref, aok_mref, cells_nilp, aok_nilp, cells_agg, shOk_n, shOk_s, lenA_lst, List.length_cons, List.length_nil, if_true, putAt, List.take_succ_cons, List.take_zero, List.drop_succ_cons, List.drop_zero, List.cons_append, List.nil_append, List.append_nil, Nat.zero_add, Nat.reduceAdd, Nat.reduceLeDiff, Nat.le_refl, List.drop_nil, List.take_nil, List.length_append, List.length_set]; first | done | rfl) | rfl)); try dsimp only)
        rw [ifA_dec, if_neg (by simp)]
        repeat ((with_reducible (first | apply bs | apply bsy)); (focus (first | (simp (disch := (first | assumption | omega | (simp only [List.length_append, List.length_set, List.length_cons, List.length_nil]; first | done | omega))) only [List.all_cons, List.all_nil, Bool.and_true, Bool.and_self, beq_self_eq_true, resv1, List.length_map, ld_v3, ld_v1, binA_eql, binA_neq, binA_lss, binA_leq, binA_gtr, binA_geq, loadA_one, un_not, ld_ptr, st_ptr, putE1, objE_obj, Option.bind_some, cut1, cut3, cut4, nil_ptr, fa_ptr, g_lt, g_eq, g_sne, g_seq, new_n, box_n, List.getElem?_cons_zero, List.getElem?_cons_succ, ex0, ex1, Sh.size, cells_int, aok_int, cells_bool, aok_bool, cells_str, aok_str, cells_lst, aok_lst, cells_ptr, aok_ptr, cells_arr, aok_arr, cells_fn, aok_fn, cells_mref, aok_mref, cells_nilp, aok_nilp, cells_agg, shOk_n, shOk_s, lenA_lst, List.length_cons, List.length_nil, if_true, putAt, List.take_succ_cons, List.take_zero, List.drop_succ_cons, List.drop_zero, List.cons_append, List.nil_append, List.append_nil, Nat.zero_add, Nat.reduceAdd, Nat.reduceLeDiff, Nat.le_refl, List.drop_nil, List.take_nil, List.length_append, List.length_set, e20, ln]; first | done | rfl) | rfl)); try dsimp only)
        rw [ifA_dec, if_neg (by simp), i_add1 (by omega), Option.bind_some]
        exact ih (i + 1) m2 F2 l x T (by omega) ⟨k1, n1, n2, h.kn⟩ (by omega)
end Go.Ab

/- The deferred closures of the diagram seat: where nothing has panicked they do nothing. -/
set_option linter.unusedVariables false
set_option linter.unusedSimpArgs false
set_option linter.unusedSectionVars false
namespace Go.Ab
open Go.Proofs Go.RowKit

theorem idle72 (caps : Array Value) (w : World) : CallsD Tryd.prog 72 caps .returning w fun e u w' => (∃ v, e = .returned v) ∧ u = .returning ∧ w' = w := by
  refine callsD_of_wpS Tryd.func72 rfl fun c₀ cs hu => ?_
  have hs : 45 ≤ (caps ++ Array.replicate (Tryd.f72.ntmps - caps.size) undef).size := by
    rw [Tryd.ntmps72, Array.size_append, Array.size_replicate]; omega
  generalize caps ++ Array.replicate (Tryd.f72.ntmps - caps.size) undef = T at hs
  apply wpS_seq
  apply wpS_region
  simp [wpOpsS, go_sem, recoverD, hu, Exit.thenS, Act.put, Act.eval, show 9 < T.size by omega, show 4 < T.size by omega]
  apply wpS_seq
  apply wpS_seq
  apply wpS_region
  simp [wpOpsS, go_sem, recoverD, hu, Exit.thenS, Act.put, Act.eval, show 9 < T.size by omega, show 4 < T.size by omega, show 10 < T.size by omega, show 11 < T.size by omega]
  refine wpS_cond (t := true) (by simp [Act.eval, show 11 < T.size by omega]) ?_
  simp only [if_true]
  refine wpS_of_wp (wp_ret ?_)
  cases c₀
  simp_all [bodyPostS, results, Tryd.results72, Exit.thenS]
theorem idle84 (caps : Array Value) (w : World) : CallsD Tryd.prog 84 caps .returning w fun e u w' => (∃ v, e = .returned v) ∧ u = .returning ∧ w' = w := by
  refine callsD_of_wpS Tryd.func84 rfl fun c₀ cs hu => ?_
  have hs : 3 ≤ (caps ++ Array.replicate (Tryd.f84.ntmps - caps.size) undef).size := by
    rw [Tryd.ntmps84, Array.size_append, Array.size_replicate]; omega
  generalize caps ++ Array.replicate (Tryd.f84.ntmps - caps.size) undef = T at hs
  apply wpS_seq
  apply wpS_region
  simp [wpOpsS, go_sem, recoverD, hu, Exit.thenS, Act.put, Act.eval, show 1 < T.size by omega, show 2 < T.size by omega]
  refine wpS_cond (t := false) (by simp [Act.eval, show 2 < T.size by omega]) ?_
  simp only [Bool.false_eq_true, if_false]
  refine wpS_of_wp (wp_skip ?_)
  cases c₀
  simp_all [bodyPostS, results, Tryd.results84]
theorem benD_of {g : Nat} {fn : Func} (hfn : Tryd.prog.funcs[g]? = some fn) (hname : (fn.name == "runtime.NumGoroutine") = false) (hbody : fn.body.isSome) (caps : Array Value)
    (h : ∀ w, CallsD Tryd.prog g caps .returning w fun e u w' => (∃ v, e = .returned v) ∧ u = .returning ∧ w' = w) : BenD Tryd.prog { target := .fn (.func g) caps, args := #[] } := by
  refine ⟨.func g, caps, g, caps, rfl, fun w => ⟨?_, h w⟩⟩
  have hb : fn.body.isNone = false := by cases hb : fn.body <;> simp_all
  simp only [invoke, callFunc, hfn, hname, hb, Sem.run_bind, Sem.run_pure, run_program, Result.andThen_ok, Bool.false_eq_true, if_false, Array.empty_append]
theorem ben72 (caps : Array Value) : BenD Tryd.prog { target := .fn (.func 72) caps, args := #[] } := benD_of Tryd.func72 (by kernel_rfl) (by kernel_rfl) caps (idle72 caps)
theorem ben84 (caps : Array Value) : BenD Tryd.prog { target := .fn (.func 84) caps, args := #[] } := benD_of Tryd.func84 (by kernel_rfl) (by kernel_rfl) caps (idle84 caps)
end Go.Ab

/- Data that can be read, as values of the interpreter: any type of whole numbers, truth values, texts, rows of these, and flat structs. -/
set_option linter.unusedVariables false
set_option linter.unusedSimpArgs false
set_option maxRecDepth 100000
set_option linter.unusedSectionVars false
namespace Go.Ab
open Go.RowKit

def gN : G := ⟨fun _ _ => False, fun _ => False, fun _ => none, fun _ _ => none⟩
def atomT (P : Program) (t : Nat) : Bool := match P.underlying t with
  | some (.int _) | some .bool | some .string | some (.slice _) => true
  | _ => false
def shE (P : Program) (t : Nat) : Sh := match P.underlying t with
  | some (.struct fs) => some fs.size
  | _ => none
/-- What stands in a variable of a type, by depth. -/
def Reads (P : Program) : Nat → Nat → AV → Prop
  | 0, _, _ => False
  | n + 1, t, v => match P.underlying t with
    | some (.int k) => ∃ i, v = .int k i ∧ (Lit.int k i).wf = true
    | some .bool => ∃ b, v = .bool b
    | some .string => ∃ s, v = .str s ∧ s.size ≤ maxLen
    | some (.slice e) => ∃ z es, v = .lst (shE P e) z .no es ∧ (z = true → es = []) ∧ ∀ x ∈ es, Reads P n e x
    | some (.struct fs) => ∃ cs, v = .agg cs ∧ cs.length = fs.size ∧ ∀ i f, fs[i]? = some f → Reads P n f.type (cs.getD i .any)
    | _ => False
def fieldsOk (P : Program) (ok : Nat → Bool) : Nat → List Field → Bool
  | _, [] => true
  | i, f :: l => f.offset == i && P.cellsOf f.type == 1 && atomT P f.type && ok f.type && fieldsOk P ok (i + 1) l
def tyOk (P : Program) : Nat → Nat → Bool
  | 0, _ => false
  | n + 1, t => match P.underlying t with
    | some (.int _) | some .bool | some .string => P.cellsOf t == 1
    | some (.slice e) => P.cellsOf t == 1 && tyOk P n e
    | some (.struct fs) => P.cellsOf t == fs.size && decide (0 < fs.size) && fieldsOk P (tyOk P n) 0 fs.toList
    | _ => false
theorem fieldsOk_get {P : Program} {ok : Nat → Bool} : ∀ {l : List Field} {i0 : Nat}, fieldsOk P ok i0 l = true → ∀ i f, l[i]? = some f → f.offset = i0 + i ∧ P.cellsOf f.type = 1 ∧ atomT P f.type = true ∧ ok f.type = true
  | [], i0, h, i, f, hf => by simp at hf
  | g :: l, i0, h, i, f, hf => by
    simp only [fieldsOk, Bool.and_eq_true, beq_iff_eq] at h
    obtain ⟨⟨⟨⟨h1, h2⟩, h3⟩, h4⟩, h5⟩ := h
    cases i with
    | zero =>
      simp at hf; subst hf
      exact ⟨h1, h2, h3, h4⟩
    | succ i =>
      simp at hf
      obtain ⟨a, b⟩ := fieldsOk_get h5 i f hf
      exact ⟨by omega, b⟩
theorem flatS {s : Nat} (hs : 0 < s) : ∀ {es : List AV}, (∀ e ∈ es, e.cells.length = s) → (flat es).length = es.length * s ∧ ∀ j, j < es.length * s → (flat es).getD j .any = (es.getD (j / s) .any).cells.getD (j % s) .any
  | [], h => ⟨by simp [flat], fun j hj => by simp at hj⟩
  | e :: es, h => by
    have h0 := h e List.mem_cons_self
    obtain ⟨h1, h2⟩ := flatS hs (fun x hx => h x (List.mem_cons_of_mem _ hx))
    have e1 : flat (e :: es) = e.cells ++ flat es := rfl
    have e2 : (e :: es).length * s = es.length * s + s := by rw [List.length_cons, Nat.add_mul, Nat.one_mul]
    refine ⟨by rw [e1, List.length_append, h0, h1, e2]; omega, fun j hj => ?_⟩
    rw [e1, List.getD_eq_getElem?_getD]
    by_cases hj2 : j < s
    · rw [List.getElem?_append_left (by omega), Nat.div_eq_of_lt hj2, Nat.mod_eq_of_lt hj2]
      show _ = e.cells.getD j .any
      rw [List.getD_eq_getElem?_getD]
    · rw [List.getElem?_append_right (by omega), h0, ← List.getD_eq_getElem?_getD, h2 (j - s) (by omega)]
      have e3 : j / s = (j - s) / s + 1 := by
        have := Nat.div_eq_sub_div hs (by omega : s ≤ j)
        omega
      have e4 : j % s = (j - s) % s := Nat.mod_eq_sub_mod (by omega)
      rw [e3, e4, List.getD_cons_succ]
theorem reads_ok {P : Program} : ∀ (n t : Nat) (v : AV), tyOk P n t = true → Reads P n t v → shOk (shE P t) v = true ∧ pl v = true ∧ v.cells.length = P.cellsOf t ∧ 0 < P.cellsOf t ∧ (shE P t).size = P.cellsOf t ∧ (atomT P t = true → atomOk v = true)
  | 0, t, v, ht, _ => by simp [tyOk] at ht
  | n + 1, t, v, ht, h => by
    unfold Reads at h
    unfold tyOk at ht
    unfold shE atomT
    cases hu : P.underlying t with
    | none => rw [hu] at h; exact h.elim
    | some ty =>
      rw [hu] at h ht
      cases ty with
      | int k =>
        obtain ⟨i, rfl, _⟩ := h
        have hc : P.cellsOf t = 1 := by simpa using ht
        exact ⟨rfl, rfl, hc.symm, by omega, hc.symm, fun _ => rfl⟩
      | bool =>
        obtain ⟨i, rfl⟩ := h
        have hc : P.cellsOf t = 1 := by simpa using ht
        exact ⟨rfl, rfl, hc.symm, by omega, hc.symm, fun _ => rfl⟩
      | string =>
        obtain ⟨i, rfl, _⟩ := h
        have hc : P.cellsOf t = 1 := by simpa using ht
        exact ⟨rfl, rfl, hc.symm, by omega, hc.symm, fun _ => rfl⟩
      | slice e =>
        obtain ⟨z, es, rfl, _⟩ := h
        have hc : P.cellsOf t = 1 := by
          simp only [Bool.and_eq_true, beq_iff_eq] at ht
          exact ht.1
        exact ⟨rfl, rfl, hc.symm, by omega, hc.symm, fun _ => rfl⟩
      | struct fs =>
        obtain ⟨cs, rfl, hl, hf⟩ := h
        simp only [Bool.and_eq_true, beq_iff_eq, decide_eq_true_eq] at ht
        obtain ⟨⟨h1, h2⟩, h3⟩ := ht
        have hall : ∀ c ∈ cs, atomOk c = true ∧ pl c = true := by
          intro c hc
          obtain ⟨i, hi, rfl⟩ := List.mem_iff_getElem.1 hc
          have hfi : fs[i]? = some (fs[i]'(by omega)) := Array.getElem?_eq_getElem (by omega)
          obtain ⟨_, b, c2, d⟩ := fieldsOk_get h3 i _ (by rw [Array.getElem?_toList]; exact hfi)
          have r := hf i _ hfi
          rw [List.getD_eq_getElem?_getD, List.getElem?_eq_getElem hi] at r
          have := reads_ok n _ _ d r
          exact ⟨this.2.2.2.2.2 c2, this.2.1⟩
        have hpl : ∀ l : List AV, (∀ c ∈ l, pl c = true) → plL l = true := by
          intro l
          induction l with
          | nil => intro _; rfl
          | cons a l ih =>
            intro h
            show (pl a && plL l) = true
            rw [h a List.mem_cons_self, ih (fun c hc => h c (List.mem_cons_of_mem _ hc))]; rfl
        refine ⟨?_, hpl cs (fun c hc => (hall c hc).2), by show cs.length = _; omega, by omega, h1.symm, fun h => by cases h⟩
        show (cs.length == fs.size && cs.all atomOk) = true
        rw [Bool.and_eq_true]
        exact ⟨by simp [hl], List.all_eq_true.2 fun c hc => (hall c hc).1⟩
      | _ => exact h.elim
section
variable {P : Program} {H : Type} {enc : TypeId × Value → H} {W : World}
theorem rd_cells {w : World} {a : Addr} {n : Nat} {cs : List Value} (h : w.cells? 0 a n = some cs) : cs.length = n ∧ ∀ j, j < n → w.cell? (a.add j) = cs[j]? := by
  unfold World.cells? at h
  rw [if_pos (Nat.zero_le _)] at h
  refine ⟨by simpa using mapM_some_length h, fun j hj => mapM_some_get h j j (by simp [hj])⟩
theorem rd_add {a : Addr} (h : a.spot = none) (j : Nat) : a.add j = ⟨a.block, a.off + j, none⟩ := by
  obtain ⟨b, o, s⟩ := a
  subst h
  exact Addr_add b o j
/-- Whatever can be read is a value of the interpreter. -/
theorem reads : ∀ (n t : Nat), tyOk P n t = true → ∀ {fuel : Nat} {cs : List Value} {x : DataW H × List MemPlace}, DataW.trod enc P W 0 (fun _ => true) true fuel t cs = some x → ∃ v : AV, Reads P n t v ∧ cs.length = P.cellsOf t ∧ ∀ j, j < P.cellsOf t → V W gN (v.cells.getD j .any) (cs.getD j undef)
  | 0, t, ht, _, _, _, _ => by simp [tyOk] at ht
  | n + 1, t, ht, fuel, cs, x, h => by
    have ht0 := ht
    unfold tyOk at ht
    unfold Reads
    cases hu : P.underlying t with
    | none => rw [hu] at ht; cases ht
    | some ty =>
      rw [hu] at ht
      cases ty with
      | int k =>
        have hc : P.cellsOf t = 1 := by simpa using ht
        obtain ⟨i, rfl, _, hw⟩ := DataW.trod_int hu h
        refine ⟨.int k i, ⟨i, rfl, hw⟩, hc.symm, fun j hj => ?_⟩
        obtain rfl : j = 0 := by omega
        exact .int _ _
      | bool =>
        have hc : P.cellsOf t = 1 := by simpa using ht
        obtain ⟨i, rfl, _⟩ := DataW.trod_bool hu h
        refine ⟨.bool i, ⟨i, rfl⟩, hc.symm, fun j hj => ?_⟩
        obtain rfl : j = 0 := by omega
        exact .bool _
      | string =>
        have hc : P.cellsOf t = 1 := by simpa using ht
        obtain ⟨i, rfl, _, hw⟩ := DataW.trod_string hu h
        refine ⟨.str i, ⟨i, rfl, hw⟩, hc.symm, fun j hj => ?_⟩
        obtain rfl : j = 0 := by omega
        exact .str _
      | slice e =>
        simp only [Bool.and_eq_true, beq_iff_eq] at ht
        obtain ⟨hc, hte⟩ := ht
        rcases DataW.trod_slice hu h with ⟨rfl, _⟩ | ⟨a, len, cap, elems, rest, m, _, rfl, _, _, hl, hm, he, hel, hre, _⟩
        · refine ⟨.lst (shE P e) true .no [], ⟨true, [], rfl, fun _ => rfl, fun x hx => by cases hx⟩, hc.symm, fun j hj => ?_⟩
          obtain rfl : j = 0 := by omega
          exact .nils _ .no (.inr rfl)
        · obtain ⟨hrl, hre⟩ := hre rfl
          have raw : ∀ i, i < cap → ∃ y, (W.cells? 0 (a.add (i * P.cellsOf e)) (P.cellsOf e)).bind (DataW.trod enc P W 0 (fun _ => true) true m e) = some y := by
            intro i hi
            by_cases hi2 : i < len
            · have h1 := hel i hi2
              rw [List.getElem?_eq_getElem (by omega)] at h1
              exact ⟨_, h1⟩
            · have h1 := hre (i - len) (by omega)
              rw [List.getElem?_eq_getElem (by omega), show len + (i - len) = i by omega] at h1
              exact ⟨_, h1⟩
          have at1 : ∀ i, i < cap → (i = 0 ∨ a.spot = none) → a.spot = none ∧ ∃ v : AV, Reads P n e v ∧ ∀ j, j < P.cellsOf e → ∃ u, W.cell? ⟨a.block, a.off + (i * P.cellsOf e + j), none⟩ = some u ∧ V W gN (v.cells.getD j .any) u := by
            intro i hi hs0
            obtain ⟨y, hy⟩ := raw i hi
            obtain ⟨cs, h1, h2⟩ := Option.bind_eq_some_iff.1 hy
            obtain ⟨v, hv, hlen, hV⟩ := reads n e hte h2
            have hpos := (reads_ok n e v hte hv).2.2.2.1
            have h3 := (rd_cells h1).2
            have hs : a.spot = none := by
              rcases hs0 with rfl | hs0
              · rw [Nat.zero_mul] at h3
                have h4 := h3 0 hpos
                rw [List.getElem?_eq_getElem (by omega)] at h4
                exact World.cell?_spot h4
              · exact hs0
            refine ⟨hs, v, hv, fun j hj => ?_⟩
            have h4 := h3 j hj
            rw [rd_add hs, Addr_add, Nat.add_assoc, List.getElem?_eq_getElem (by omega)] at h4
            refine ⟨_, h4, ?_⟩
            have := hV j hj
            rwa [List.getD_eq_getElem?_getD (l := cs), List.getElem?_eq_getElem (by omega)] at this
          have hsp : cap = 0 ∨ a.spot = none := by
            by_cases h0 : cap = 0
            · exact .inl h0
            · exact .inr (at1 0 (by omega) (.inl rfl)).1
          have cell : ∀ i, ∃ v : AV, i < cap → Reads P n e v ∧ ∀ j, j < P.cellsOf e → ∃ u, W.cell? ⟨a.block, a.off + (i * P.cellsOf e + j), none⟩ = some u ∧ V W gN (v.cells.getD j .any) u := by
            intro i
            by_cases hi : i < cap
            · obtain ⟨v, hv⟩ := (at1 i hi (.inr (hsp.resolve_left (by omega)))).2
              exact ⟨v, fun _ => hv⟩
            · exact ⟨.any, fun h => absurd h hi⟩
          obtain ⟨f, hf⟩ := Classical.axiomOfChoice cell
          have hlen : ((List.range len).map f).length = len := by simp
          have hmem : ∀ v ∈ (List.range len).map f, Reads P n e v := by
            intro v hv
            obtain ⟨i, hi, rfl⟩ := List.mem_map.1 hv
            exact (hf i (by have := List.mem_range.1 hi; omega)).1
          have hok := fun v hv => reads_ok n e v hte (hmem v hv)
          by_cases hl0 : len = 0
          · subst hl0
            refine ⟨.lst (shE P e) false .no [], ⟨false, [], rfl, (fun h => by cases h), fun x hx => by cases hx⟩, hc.symm, fun j hj => ?_⟩
            obtain rfl : j = 0 := by omega
            exact V.lst (w := W) (g := gN) (shE P e) .no [] a cap (fun _ => undef) hsp (Nat.zero_le _) hm (fun e he => by cases he) (fun j hj => by simp [flat] at hj) (fun j hj => by simp [flat] at hj) trivial
          · have hs0 : 0 < P.cellsOf e := (hok (f 0) (List.mem_map.2 ⟨0, List.mem_range.2 (by omega), rfl⟩)).2.2.2.1
            obtain ⟨fl1, fl2⟩ := flatS hs0 (fun v hv => (hok v hv).2.2.1)
            rw [hlen] at fl1 fl2
            have hcl : ∀ j, j < len * P.cellsOf e → ∃ u, W.cell? ⟨a.block, a.off + j, none⟩ = some u ∧ V W gN ((flat ((List.range len).map f)).getD j .any) u := by
              intro j hj
              have hd : j / P.cellsOf e < len := Nat.div_lt_of_lt_mul (by rw [Nat.mul_comm]; exact hj)
              have h1 := (hf (j / P.cellsOf e) (by omega)).2 (j % P.cellsOf e) (Nat.mod_lt _ hs0)
              have e1 : j / P.cellsOf e * P.cellsOf e + j % P.cellsOf e = j := Nat.div_add_mod' j _
              rw [e1] at h1
              rw [fl2 j hj, List.getD_eq_getElem?_getD (l := (List.range len).map f), List.getElem?_map, List.getElem?_range hd]
              exact h1
            have hus : ∀ j, ∃ u, j < len * P.cellsOf e → W.cell? ⟨a.block, a.off + j, none⟩ = some u ∧ V W gN ((flat ((List.range len).map f)).getD j .any) u := by
              intro j
              by_cases hj : j < len * P.cellsOf e
              · obtain ⟨u, hu⟩ := hcl j hj
                exact ⟨u, fun _ => hu⟩
              · exact ⟨undef, fun h => absurd h hj⟩
            obtain ⟨us, hus⟩ := Classical.axiomOfChoice hus
            refine ⟨.lst (shE P e) false .no ((List.range len).map f), ⟨false, _, rfl, (fun h => by cases h), hmem⟩, hc.symm, fun j hj => ?_⟩
            obtain rfl : j = 0 := by omega
            have hV := V.lst (w := W) (g := gN) (shE P e) .no ((List.range len).map f) a cap us hsp (by rw [hlen]; exact hl) hm
              (fun v hv => ⟨(hok v hv).1, (hok v hv).2.1⟩)
              (fun j hj => by
                rw [fl1] at hj
                exact ⟨(hus j hj).1, fun h => h, fun h => h⟩)
              (fun j hj => by
                rw [fl1] at hj
                exact (hus j hj).2) trivial
            rw [hlen] at hV
            exact hV
      | struct fs =>
        simp only [Bool.and_eq_true, beq_iff_eq, decide_eq_true_eq] at ht
        obtain ⟨⟨h1, h2⟩, h3⟩ := ht
        obtain ⟨xs, m, _, _, hcl, hxl, hf⟩ := DataW.trod_struct hu h
        have fld : ∀ i, ∃ v : AV, i < fs.size → ∀ f, fs[i]? = some f → Reads P n f.type v ∧ V W gN v (cs.getD i undef) := by
          intro i
          by_cases hi : i < fs.size
          · have hfi : fs[i]? = some fs[i] := Array.getElem?_eq_getElem hi
            obtain ⟨o, c, a, k⟩ := fieldsOk_get h3 i fs[i] (by rw [Array.getElem?_toList]; exact hfi)
            have hx := hf i fs[i] hfi
            rw [List.getElem?_eq_getElem (by omega)] at hx
            obtain ⟨v, hv, hlen, hV⟩ := reads n _ k hx
            refine ⟨v, fun _ f hf => ?_⟩
            rw [hfi] at hf
            obtain rfl := Option.some.inj hf
            refine ⟨hv, ?_⟩
            have h0 := hV 0 (by omega)
            have hat := (reads_ok n _ v k hv).2.2.2.2.2 a
            have hcells : v.cells = [v] := by
              cases v <;> first | rfl | (simp [atomOk] at hat)
            rw [hcells, o, Nat.zero_add, c] at h0
            have e0 : ((cs.drop i).take 1).getD 0 undef = cs.getD i undef := by
              rw [List.getD_eq_getElem?_getD, List.getD_eq_getElem?_getD, List.getElem?_take_of_lt (by omega), List.getElem?_drop]; rfl
            rw [e0] at h0
            exact h0
          · exact ⟨.any, fun h => absurd h hi⟩
        obtain ⟨F, hF⟩ := Classical.axiomOfChoice fld
        have hg : ∀ i, i < fs.size → ((List.range fs.size).map F).getD i .any = F i := by
          intro i hi
          rw [List.getD_eq_getElem?_getD, List.getElem?_map, List.getElem?_range hi]; rfl
        refine ⟨.agg ((List.range fs.size).map F), ⟨_, rfl, by simp, fun i f hf => ?_⟩, hcl, fun j hj => ?_⟩
        · have hi : i < fs.size := (Array.getElem?_eq_some_iff.1 hf).1
          rw [hg i hi]
          exact (hF i hi f hf).1
        · rw [h1] at hj
          show V W gN (((List.range fs.size).map F).getD j .any) _
          rw [hg j hj]
          exact (hF j hj fs[j] (Array.getElem?_eq_getElem hj)).2
      | _ => cases ht
theorem read_slice {n t e : Nat} (ht : tyOk P n t = true) {v : Value} {d : DataW H} {ps : List MemPlace} (hu : P.underlying t = some (.slice e)) (hv : ∃ a len cap, v = .slice a len cap) (h : DataW.Trod enc P W 0 (fun _ => true) true t v d ps) : ∃ y : AV, V W gN y v ∧ Reads P n t y := by
  obtain ⟨a, len, cap, rfl⟩ := hv
  obtain ⟨fuel, h⟩ := h
  have h : DataW.trod enc P W 0 (fun _ => true) true fuel t [.slice a len cap] = some (d, ps) := h
  obtain ⟨y, hy, hl, hV⟩ := reads n t ht h
  obtain ⟨_, _, h3, _, _, h6⟩ := reads_ok n t y ht hy
  have hat : atomT P t = true := by unfold atomT; rw [hu]
  have hc : y.cells = [y] := by
    have := h6 hat
    cases y <;> first | rfl | (simp [atomOk] at this)
  have := hV 0 (by rw [← hl]; exact Nat.zero_lt_one)
  rw [hc] at this
  exact ⟨y, this, hy⟩
end
end Go.Ab

/- What the rows of the diagram seat share: the settings are sound; the table of powers; arguments read as data. -/
set_option linter.unusedVariables false
set_option linter.unusedSimpArgs false
set_option maxRecDepth 100000
namespace Go.Ab
open Go.Proofs Go.Proofs.Tryd Go.RowKit

theorem get_nil (nm : Nat) : Mem.get ([] : Mem) nm = none := by simp [Mem.get]
theorem memR0 {w : World} (h : Yd.tab w) : MemR w.heap.size w gN [] where
  obj nm bx cs h := by rw [get_nil] at h; cases h
  tok nm n sz h := by rw [get_nil] at h; cases h
  resv nm h := ⟨rfl, fun _ => rfl⟩
  fresh nm h := ⟨rfl, fun _ => rfl⟩
  inj nm nm' b h := by unfold blk at h; rw [get_nil] at h; cases h
  wrLt b off h := h.elim
  inv w' k := Yd.tab_below (Yd.tab_lt h) h k
  boxLt b h := h.elim
  mp nm kk es h := by rw [get_nil] at h; cases h
theorem cfgOk : CfgOk cfg where
  ben g h caps := by
    have h : tokGet benOf g = true := h
    unfold benOf at h
    simp only [tokGet] at h
    split at h
    · rename_i e; obtain rfl : 72 = g := Nat.eq_of_beq_eq_true e; exact ben72 caps
    · split at h
      · rename_i e; obtain rfl : 84 = g := Nat.eq_of_beq_eq_true e; exact ben84 caps
      · cases h
  name g fn h := by
    have hall : (Tryd.prog.funcs.toList.all fun fn => !(fn.name == "runtime.NumGoroutine")) = true := by kernel_rfl
    have hm : fn ∈ Tryd.prog.funcs.toList := by
      rw [Array.mem_toList_iff]
      exact Array.mem_of_getElem? h
    have := List.all_eq_true.1 hall fn hm
    simpa using this
  lib g h hh := by
    have hh : (match Nat.beq g 73 with | true => some nameA | false => none) = some h := hh
    split at hh
    · rename_i e
      obtain rfl : g = 73 := Nat.eq_of_beq_eq_true e
      obtain rfl := Option.some.inj hh
      exact ⟨⟨f73, at73, by kernel_rfl⟩, fun vs v hv m => name_ok vs v hv m⟩
    · cases hh
/-- A law that answers true in values answers true on the machine, and turns nothing that was there. -/
theorem law_calls {f : Nat} {args : List AV} {vs : Array Value} {W : World} (ht : Yd.tab W) (h : ∃ m', AC cfg f args [] = some (.bool true, m')) (hl : args.length = vs.size) (hv : ∀ j, j < args.length → V W gN (args.getD j .any) (vs.getD j undef)) :
    Calls Tryd.prog f vs W fun e W' => e = .returned (.bool true) ∧ Below W.heap.size W W' := by
  obtain ⟨m', hm'⟩ := h
  refine ((AC_sound cfgOk f args [] _ _ hm').1 W.heap.size W gN vs (memR0 ht) (Nat.le_refl _) hl hv).mono ?_
  rintro e W' ⟨v', g', rfl, hs, _, hv'⟩
  cases hv'
  exact ⟨rfl, hs.below⟩
/-! ### The table of powers -/
abbrev laidOf : List (String × DataW Unit) := YtpkhogofbdlfeaaDoor.Rows.diagramStepsRow.laid
theorem tab_of_laid {W : World} (h : laidMetH Tryd.prog laidOf W) : Yd.tab W := by
  rw [MakeChecks.laidMetH_plain _ _ _ (by kernel_rfl)] at h
  obtain ⟨ps, ⟨g1, t1, cs1, fuel1, p1, q1, _, _, _, _, ⟨g2, t2, cs2, fuel2, p2, q2, _, _, _, _, ⟨g, t, cs, fuel, p, q, hg, ht, hv, hd, _, _⟩, _⟩, _⟩, _⟩ := h
  obtain rfl := Option.some.inj (Yd.globalPow.symm.trans hg)
  obtain rfl := Option.some.inj ((show (Tryd.prog.globals[0]?).map (·.type) = some 134 by kernel_rfl).symm.trans ht)
  unfold Yd.tab Lib.TabIs
  rw [hv]
  have := Lib.cells_of_tab (zs := Lib.pow10Tab) (k := .u64) Tryd.underlying134 Tryd.underlying128 (by kernel_rfl) (by kernel_rfl) hd
  rw [← this]
/-! ### Types, readers -/
theorem u3 : Tryd.prog.underlying 3 = some (.int .i64) := by kernel_rfl
theorem u4 : Tryd.prog.underlying 4 = some .bool := by kernel_rfl
theorem u22 : Tryd.prog.underlying 22 = some (.slice 3) := by kernel_rfl
noncomputable def fieldsOf (t : Nat) : Array Field := match Tryd.prog.underlying t with
  | some (.struct fs) => fs
  | _ => #[]
theorem f33 : (fieldsOf 33).toList.map (fun f => f.type) = [3, 3, 22] := by kernel_rfl
theorem s3 : shE Tryd.prog 3 = none := by unfold shE; rw [u3]
theorem sz {t : Nat} {l : List Nat} (h : (fieldsOf t).toList.map (fun f => f.type) = l) : (fieldsOf t).size = l.length := by
  rw [← h, List.length_map, Array.length_toList]
theorem rd_slice {n t e : Nat} {v : AV} (ht : Tryd.prog.underlying t = some (.slice e)) (h : Reads Tryd.prog (n + 1) t v) : ∃ z es, v = .lst (shE Tryd.prog e) z .no es ∧ (z = true → es = []) ∧ ∀ x ∈ es, Reads Tryd.prog n e x := by
  unfold Reads at h
  rw [ht] at h
  exact h
theorem rd_int {n : Nat} {v : AV} (h : Reads Tryd.prog (n + 1) 3 v) : ∃ i, v = .int .i64 i ∧ Yd.i64 i := by
  unfold Reads at h
  rw [u3] at h
  obtain ⟨i, h1, hw⟩ := h
  refine ⟨i, h1, ?_⟩
  simp only [Lit.wf, Bool.and_eq_true, decide_eq_true_eq] at hw
  exact hw
theorem list_map' {α : Type} {f : α → AV} {Q : α → Prop} : ∀ {es : List AV}, (∀ x ∈ es, ∃ a, x = f a ∧ Q a) → ∃ l : List α, es = l.map f ∧ ∀ a ∈ l, Q a
  | [], _ => ⟨[], rfl, by simp⟩
  | x :: es, h => by
    obtain ⟨a, rfl, ha⟩ := h x List.mem_cons_self
    obtain ⟨l, rfl, hl⟩ := list_map' (f := f) (Q := Q) fun y hy => h y (List.mem_cons_of_mem _ hy)
    exact ⟨a :: l, rfl, fun b hb => by
      rcases List.mem_cons.1 hb with rfl | hb
      · exact ha
      · exact hl b hb⟩
theorem rd_ints {n : Nat} {v : AV} (h : Reads Tryd.prog (n + 2) 22 v) : ∃ z ns, v = IA z .no ns ∧ (z = true → ns = []) ∧ ∀ k ∈ ns, Yd.i64 k := by
  obtain ⟨z, es, rfl, hz, he⟩ := rd_slice u22 h
  obtain ⟨ns, rfl, hd⟩ := list_map' (f := AV.int .i64) (Q := Yd.i64) (fun x hx => rd_int (he x hx))
  exact ⟨z, ns, by rw [s3], fun h => List.map_eq_nil_iff.1 (hz h), hd⟩
theorem ok22 : tyOk Tryd.prog 2 22 = true := by kernel_rfl
section
variable {H : Type} {enc : TypeId × Value → H} {W : World}
theorem ints_read {v : Value} {d : DataW H} {ps : List MemPlace} (hv : ∃ a len cap, v = .slice a len cap) (h : DataW.Trod enc Tryd.prog W 0 (fun _ => true) true 22 v d ps) : ∃ z ns, V W gN (IA z .no ns) v ∧ (z = true → ns = []) ∧ ∀ k ∈ ns, Yd.i64 k := by
  obtain ⟨y, hy, hr⟩ := read_slice ok22 u22 hv h
  obtain ⟨z, ns, rfl, hc⟩ := rd_ints hr
  exact ⟨z, ns, hy, hc⟩
end
end Go.Ab
