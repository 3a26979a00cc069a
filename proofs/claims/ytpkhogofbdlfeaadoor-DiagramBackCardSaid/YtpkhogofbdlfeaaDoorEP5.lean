/- DiagramBack: what List tells, Load takes back. -/
import Derived.Test.YtpkhogofbdlfeaaDoorEP4
import Derived.Test.YtpkhogofbdlfeaaDoorEP2
import Derived.Test.YtpkhogofbdlfeaaDoorEP3
import Derived.Test.YtpkhogofbdlfeaaDoorEP1
import Derived.Test.YtpkhogofbdlfeaaDoorProg
import Derived.Tactics
import Derived.Tactics2
import Derived.Defers
import Derived.Recover
import Derived.Laws.Pointers
import Derived.Test.YtpkhogofbdlfeaaDoorEP0
import Derived.ProofKit
import Derived.OpenShut
import Derived.ChangeArms
import Derived.LaidMore
import Derived.Lay
import Derived.KernelRfl
import Derived.Test.YtpkhogofbdlfeaaDoorRows
set_option linter.unusedVariables false
set_option linter.unusedSimpArgs false
set_option linter.unusedSectionVars false
set_option maxRecDepth 100000
namespace Go.Ab
open Go.Proofs Go.Proofs.Tryd

def toRN (n : ND) : RN := ⟨n.var, kz n, ko n, n.kids, n.leaf⟩
theorem toRN_av {n : ND} (h : n.ok) : (toRN n).av = n.av := by
  unfold ND.av
  rw [kids_IA h]; rfl
theorem NL_RL {z : Bool} {o : Own} {P : List ND} (h : ∀ n ∈ P, n.ok) : NL z o P = RL z o (P.map toRN) := by
  have : (P.map toRN).map RN.av = P.map ND.av := by
    rw [List.map_map]
    exact List.map_congr_left fun n hn => toRN_av (h n hn)
  rw [RL, this]
section
variable {ar : List Int} {l : List ND}
theorem PL_at {P : List ND} {i : Nat} (hi : i < P.length) : (P.map toRN).getD i RN0 = toRN P[i] := by
  rw [List.getD_eq_getElem?_getD, List.getElem?_map, List.getElem?_eq_getElem hi]; rfl
theorem okF_of {L : List RN} (h : RV ar L) (hL : 0 < L.length) : ∀ (j i : Nat), i + j = L.length → okF ar L j i = true
  | 0, i, _ => decide_eq_true hL
  | j + 1, i, hi => by rw [okF, h i (by omega), okF_of h hL j (i + 1) (by omega)]; rfl
theorem mapN_get {out : List Nat} {i : Nat} (hi : i < out.length) : (mapN l out)[i]'(by unfold mapN; rw [List.length_map]; exact hi) = nd l out out[i] := by
  unfold mapN
  rw [List.getElem_map]
theorem cl_kid {out : List Nat} (hc : Cl l out) {i : Nat} (hi : i < out.length) (hj : out[i] < l.length) {k : Int} (hk : k ∈ l[out[i]].kids) : out.idxOf k.toNat < i ∧ out[out.idxOf k.toNat]? = some k.toNat := by
  have h1 := hc.cl i hi hj k hk
  have h2 : (out.take i).idxOf k.toNat < (out.take i).length := List.idxOf_lt_length_of_mem h1
  have h3 : out.idxOf k.toNat = (out.take i).idxOf k.toNat := by
    conv => lhs; rw [← List.take_append_drop i out]
    rw [List.idxOf_append, if_pos h1]
  have h4 : out.idxOf k.toNat < i := by rw [h3]; rw [List.length_take] at h2; omega
  have h5 : out.idxOf k.toNat < out.length := by omega
  exact ⟨h4, by rw [List.getElem?_eq_getElem h5, List.getElem_idxOf]⟩
/-- What List tells is a valid list. -/
theorem PL_rv (g : GoodL ar l) {out : List Nat} (hc : Cl l out) : RV ar ((mapN l out).map toRN) := by
  intro i hi
  have hl1 : ((mapN l out).map toRN).length = out.length := by unfold mapN; rw [List.length_map, List.length_map]
  have hio : i < out.length := by omega
  have hip : i < (mapN l out).length := by unfold mapN; rw [List.length_map]; exact hio
  have hj := hc.lt _ (List.getElem_mem hio)
  rw [PL_at hip, mapN_get hio]
  have hnd : toRN (nd l out out[i]) = ⟨l[out[i]].var, kz (nd l out out[i]), ko (nd l out out[i]), l[out[i]].kids.map (fun k => ((out.idxOf k.toNat : Nat) : Int)), l[out[i]].leaf⟩ := by
    unfold toRN nd
    rw [getD_at hj]
  have hok := g.ok _ (List.getElem_mem hj)
  unfold okN
  rw [hnd]
  by_cases hv : l[out[i]].var < 0
  · rcases hok with ⟨a1, a2, a3⟩ | ⟨a1, _⟩
    · rw [if_pos a1]
      exact decide_eq_true ⟨by simp [a2], a3⟩
    · omega
  · rcases hok with ⟨a1, _⟩ | ⟨a1, a2, a3, a4, a5⟩
    · omega
    · have hne : ¬ l[out[i]].var = -1 := by omega
      obtain ⟨b1, b2⟩ := g.var _ hj (by omega)
      rw [if_neg hne, Bool.and_eq_true]
      refine ⟨decide_eq_true ⟨a1, b1, a3, by simpa using b2⟩, List.all_eq_true.2 fun q hq => ?_⟩
      obtain ⟨k, hk, rfl⟩ := List.mem_map.1 hq
      obtain ⟨c1, c2⟩ := cl_kid hc hio hj hk
      obtain ⟨t, ek, ht, htv⟩ := g.kid _ hj (by omega) k hk
      have htl : t < l.length := by omega
      have htv := htv htl
      have c3 : out.idxOf k.toNat < out.length := by omega
      have c4 : out[out.idxOf k.toNat] = t := by
        rw [List.getElem?_eq_getElem c3] at c2
        have := Option.some.inj c2
        rw [this, ek, Int.toNat_natCast]
      unfold kidB
      rw [Int.toNat_natCast, PL_at (by unfold mapN; rw [List.length_map]; exact c3), mapN_get c3, c4]
      have hnv : (toRN (nd l out t)).var = l[t].var := by unfold toRN nd; rw [getD_at htl]
      rw [hnv, Bool.and_eq_true]
      refine ⟨decide_eq_true (by omega), decide_eq_true ?_⟩
      unfold abv at htv
      split at htv
      · exact .inr htv
      · rcases g.ok _ (List.getElem_mem htl) with ⟨d1, _⟩ | ⟨d1, _⟩
        · exact .inl d1
        · omega
theorem leaf_is {n : ND} (h : n.ok) (hv : n.var < 0) : leafN n.leaf = n := by
  rcases h with ⟨a1, a2, _⟩ | ⟨a1, _⟩
  · obtain ⟨v, k, x⟩ := n
    simp only at a1 a2
    rw [a1, a2]; rfl
  · omega
theorem node_is {n : ND} (h : n.ok) (hv : ¬ n.var < 0) : nodeN n.var n.kids = n := by
  rcases h with ⟨a1, _⟩ | ⟨_, _, a3, _⟩
  · omega
  · obtain ⟨v, k, x⟩ := n
    simp only at a3
    rw [a3]; rfl
theorem nodeR_dif {l : List ND} {v : Int} {ks : List Int} (h : ∃ k ∈ ks, k ≠ ks.headD 0) : nodeR l v ks = (((l.idxOf (nodeN v ks) : Nat) : Int), ins l (nodeN v ks)) := by
  unfold nodeR
  rw [if_neg]
  intro hh
  obtain ⟨k, hk, hne⟩ := h
  exact hne (by simpa using List.all_eq_true.1 hh k hk)
/-- Into the same store: each node is there. -/
theorem load_same (g : GoodL ar l) {out : List Nat} (hc : Cl l out) : ∀ i, i ≤ out.length → loadF ((mapN l out).map toRN) l i = (l, out.take i)
  | 0, _ => rfl
  | i + 1, hi => by
    have hio : i < out.length := by omega
    have hip : i < (mapN l out).length := by unfold mapN; rw [List.length_map]; exact hio
    have hj := hc.lt _ (List.getElem_mem hio)
    have hok := g.ok _ (List.getElem_mem hj)
    rw [loadF_succ (by rw [List.length_map]; exact hip), load_same g hc i (by omega), PL_at hip, mapN_get hio, List.take_succ_eq_append_getElem hio]
    have e1 : (toRN (nd l out out[i])).var = l[out[i]].var := by unfold toRN nd; rw [getD_at hj]
    have e2 : (toRN (nd l out out[i])).leaf = l[out[i]].leaf := by unfold toRN nd; rw [getD_at hj]
    have e3 : (toRN (nd l out out[i])).kids = l[out[i]].kids.map (fun k => ((out.idxOf k.toNat : Nat) : Int)) := by unfold toRN nd; rw [getD_at hj]
    have hmem : l[out[i]] ∈ l := List.getElem_mem hj
    have hix : l.idxOf l[out[i]] = out[i] := nodup_inj g.nd (List.idxOf_lt_length_of_mem hmem) hj (List.getElem_idxOf _)
    unfold stepL
    rw [e1, e2, e3]
    by_cases hv : l[out[i]].var < 0
    · rw [if_pos hv, leaf_is hok hv]
      simp only [ins, if_pos hmem, hix]
    · rw [if_neg hv]
      have ek : ((l[out[i]].kids.map (fun k => ((out.idxOf k.toNat : Nat) : Int))).map fun k => (out.take i).getD k.toNat 0).map Int.ofNat = l[out[i]].kids := by
        rw [List.map_map, List.map_map]
        conv => rhs; rw [← List.map_id l[out[i]].kids]
        refine List.map_congr_left fun k hk => ?_
        obtain ⟨c1, c2⟩ := cl_kid hc hio hj hk
        obtain ⟨t, et, _⟩ := kid_lt g hj k hk
        simp only [Function.comp, Int.toNat_natCast, id]
        rw [List.getD_eq_getElem?_getD, List.getElem?_take, if_pos c1, c2, Option.getD_some, et]
        simp
      simp only [ek]
      rw [nodeR_dif (g.dif _ hj (by omega)), node_is hok hv]
      simp only [ins, if_pos hmem, hix, Int.toNat_natCast]
theorem mapN_nodup (g : GoodL ar l) {out : List Nat} (hc : Cl l out) : (mapN l out).Nodup := by
  unfold mapN
  rw [List.nodup_iff_pairwise_ne, List.pairwise_map]
  refine List.Pairwise.imp_of_mem ?_ (List.nodup_iff_pairwise_ne.1 hc.nd)
  intro a b ha hb hne e
  exact hne (nd_inj g (hc.lt a ha) (hc.lt b hb) (hc.kids ha (hc.lt a ha)) (hc.kids hb (hc.lt b hb)) e)
theorem not_take {α : Type} [DecidableEq α] {P : List α} (h : P.Nodup) {i : Nat} (hi : i < P.length) : P[i] ∉ P.take i := fun hm => by
  obtain ⟨k, hk, e⟩ := List.getElem_of_mem hm
  rw [List.length_take] at hk
  rw [List.getElem_take] at e
  have := nodup_inj h (by omega) hi e
  omega
/-- Into a new store: the numbers are the places. -/
theorem load_new (g : GoodL ar l) (hll : l.length ≤ 100000) {out : List Nat} (hc : Cl l out) : ∀ i, i ≤ out.length → loadF ((mapN l out).map toRN) [] i = ((mapN l out).take i, List.range i)
  | 0, _ => rfl
  | i + 1, hi => by
    have hio : i < out.length := by omega
    have hip : i < (mapN l out).length := by unfold mapN; rw [List.length_map]; exact hio
    have hj := hc.lt _ (List.getElem_mem hio)
    have hol := nodup_lt _ _ hc.nd hc.lt
    have hok := nd_ok g hll (p := out) (by omega) hj
    have hnm := not_take (mapN_nodup g hc) hip
    rw [mapN_get hio] at hnm
    have hlt : ((mapN l out).take i).length = i := by rw [List.length_take]; omega
    rw [loadF_succ (by rw [List.length_map]; exact hip), load_new g hll hc i (by omega), PL_at hip, mapN_get hio, List.take_succ_eq_append_getElem hip, mapN_get hio, List.range_succ]
    have e3 : (nd l out out[i]).kids = l[out[i]].kids.map (fun k => ((out.idxOf k.toNat : Nat) : Int)) := by unfold nd; rw [getD_at hj]
    have e1 : (nd l out out[i]).var = l[out[i]].var := by unfold nd; rw [getD_at hj]
    show stepL _ (toRN (nd l out out[i])) = _
    unfold stepL toRN
    by_cases hv : (nd l out out[i]).var < 0
    · simp only [if_pos hv]
      rw [leaf_is hok hv]
      simp only [ins, if_neg hnm, idxOf_not hnm, hlt]
    · simp only [if_neg hv]
      have ek : ((nd l out out[i]).kids.map fun k => (List.range i).getD k.toNat 0).map Int.ofNat = (nd l out out[i]).kids := by
        rw [e3, List.map_map, List.map_map]
        refine List.map_congr_left fun k hk => ?_
        obtain ⟨c1, _⟩ := cl_kid hc hio hj hk
        simp only [Function.comp, Int.toNat_natCast]
        rw [List.getD_eq_getElem?_getD, List.getElem?_range c1, Option.getD_some]; rfl
      simp only [ek]
      have hd : ∃ k ∈ (nd l out out[i]).kids, k ≠ (nd l out out[i]).kids.headD 0 := by
        obtain ⟨k, hk, hne⟩ := g.dif _ hj (by rw [e1] at hv; omega)
        rw [e3]
        refine ⟨_, List.mem_map_of_mem hk, fun e => hne ?_⟩
        cases hks : l[out[i]].kids with
        | nil => rw [hks] at hk; cases hk
        | cons k0 kt =>
          rw [hks, List.map_cons, List.headD_cons] at e
          rw [List.headD_cons]
          have hk0 : k0 ∈ l[out[i]].kids := by rw [hks]; exact List.mem_cons_self
          obtain ⟨_, c2⟩ := cl_kid hc hio hj hk
          obtain ⟨_, d2⟩ := cl_kid hc hio hj hk0
          have e' : out.idxOf k.toNat = out.idxOf k0.toNat := by omega
          rw [e'] at c2
          rw [c2] at d2
          have e4 := Option.some.inj d2
          obtain ⟨t, et, _⟩ := kid_lt g hj k hk
          obtain ⟨t0, et0, _⟩ := kid_lt g hj k0 hk0
          omega
      rw [nodeR_dif hd, node_is hok hv]
      simp only [ins, if_neg hnm, idxOf_not hnm, hlt, Int.toNat_natCast]
end
/-! ### nodes -/
theorem W45 {z : Bool} {o : Own} {L : List ND} (hL : L.length ≤ 100000) : ∀ (q p : List ND) (m : Mem) (x : AV) (T : List Nat), L = p ++ q → NR 44 m x p T →
    ∃ (m' : Mem) (x' : AV) (T' : List Nat), L45_3 x (NL z o L) (.int .i64 L.length) (.int .i64 p.length) m (K45_3 (finK cfg.P f45.results.toList)) = some (x', m') ∧ NR 44 m' x' L T' := by
  intro q
  induction q with
  | nil =>
    intro p m x T hpq h
    rw [List.append_nil] at hpq
    subst hpq
    refine ⟨m, x, T, ?_, h⟩
    rw [L45_3_eq, binA_lss, Option.bind_some, ifA_dec, if_neg (by omega), K45_3_x0]
  | cons n q ih =>
    intro p m x T hpq h
    have hpl : p.length < L.length := by rw [hpq]; simp
    have hat : L[p.length] = n := by simp [hpq]
    have hix := idx_NL (z := z) (o := o) hpl
    rw [hat] at hix
    have bx := box_av n m (get_len m)
    have f1 : Fr m (m ++ [some (Ent.obj true [.int .i64 n.var, kidsA n, .int .i64 n.leaf])]) [] := Fr.app m _ _
    have h2 : NR 44 (m ++ [some (Ent.obj true [.int .i64 n.var, kidsA n, .int .i64 n.leaf])]) x p T := nr_move h fun k hk => f1.get k (nr_lt h k hk) (by simp)
    obtain ⟨x3, m3, T3, ea, n3, _, _⟩ := nr_app h2 (by omega) n
    obtain ⟨m', x', T', e, k⟩ := ih (p ++ [n]) m3 x3 T3 (by rw [hpq, List.append_assoc]; rfl) n3
    refine ⟨m', x', T', ?_, k⟩
    have ld2 : loadA (some 3) (m ++ [some (Ent.obj true [.int .i64 n.var, kidsA n, .int .i64 n.leaf])]) (.ptr m.length 0) = some n.av := by
      rw [ld_ptr, g_eq rfl]; rfl
    have hbs : buildSliceA (some 3) [n.av] = some (.lst (some 3) false .full [n.av]) := bsl_av n
    rw [L45_3_eq, binA_lss, Option.bind_some, ifA_dec, if_pos (by omega), hix, Option.bind_some, ld_v3, Option.bind_some, new_n, new_n]
    dsimp only
    rw [bx, Option.bind_some, ld2, Option.bind_some, hbs, Option.bind_some, ea, Option.bind_some, i_add1 (by omega), Option.bind_some]
    rw [List.length_append] at e
    exact e
theorem V45 (z : Bool) (o : Own) (L : List ND) (hL : L.length ≤ 100000) (hne : L ≠ []) : AP cfg 45 [NL z o L] = some (NL false .no L) := by
  obtain ⟨m', x', T', e, h⟩ := W45 (z := z) (o := o) hL L [] [] (.lst none true .full []) [] rfl .none
  obtain ⟨tk, rfl⟩ := nr_ne h hne
  refine AP_of (m := m') (v := NL false (.tok tk 44) L) (l := []) ?_ rfl rfl
  rw [T45, len_NL, Option.bind_some]
  exact e
theorem DiagramBack_law (z zl : Bool) (ar l : List Int) : ∃ m', AC cfg 10 [IA z .no ar, IA zl .no l] [] = some (.bool true, m') := by
  obtain ⟨o', r, e11, hg, hr17, ho'⟩ := V11 z .no ar
  have p11 : ∀ m, pcall (AP cfg) none m 11 [IA z .no ar] = some (IA false o' r, m) := fun m => by
    rw [pcall1 (fz_IA z .no ar), show (Own.no).fr = Own.no from rfl, e11]; rfl
  rw [T10, p11, Option.bind_some, pc12, Option.bind_some, binA_neq, Option.bind_some, ifA_dec]
  by_cases he : armsE r = 0
  · rw [if_neg (by simpa using he)]
    obtain ⟨h1, h2⟩ := armsE_ok he
    obtain ⟨hN, hN2⟩ := few_places hg he
    obtain ⟨zt, ot, t, e28, _, htl, htb⟩ := pc28 false zl o' .no r l h1 h2 hN hN2 []
    obtain ⟨m1, s, F, zs, os, l1, id1, e29, st1, g1, tab1, hl1, f1, _⟩ := A29 (za := false) (z := zt) (oa := o') (o := ot) (ar := r) (t := t) [] (fun h => by cases h) he hN2 htl htb
    have hll : l1.length ≤ 100000 := by omega
    obtain ⟨m2, y, T, e25, hn, f2⟩ := A25 st1 g1 hll (by omega) tab1.lt
    obtain ⟨c1, c2, _⟩ := Vi_facts g1 id1 tab1.lt [] cl_nil
    have eV := Vi_eq g1 tab1.lt []
    rw [if_neg (by simp)] at eV
    generalize hout : Vi l1 id1 [] = out at *
    have hol := nodup_lt _ _ c1.nd c1.lt
    have ho0 : 0 < out.length := List.length_pos_of_mem c2
    have hPl : (mapN l1 out).length = out.length := by unfold mapN; rw [List.length_map]
    have hne : mapN l1 out ≠ [] := fun e => by rw [e] at hPl; simp at hPl; omega
    obtain ⟨tk, rfl⟩ := nr_ne hn hne
    have hok := mapN_ok g1 hll c1
    have hrv := PL_rv g1 c1
    have hLl : ((mapN l1 out).map toRN).length = out.length := by rw [List.length_map, hPl]
    have hokF := okF_of hrv (by omega) ((mapN l1 out).map toRN).length 0 (by omega)
    have hNR := NL_RL (z := false) (o := .tok tk 44) hok
    have st2 := st1.app f2
    have e20 := A20 st2 (by omega)
    obtain ⟨m3, F3, e37, st3, f3, gr3⟩ := A37v (zl := false) (ol := .tok tk 44) hokF h2 h1 g1 (by omega) st2
    have hsame := load_same g1 c1 out.length (Nat.le_refl _)
    rw [hLl, hsame] at e37 st3
    rw [List.take_length] at e37
    have hlast : out.getD (out.length - 1) 0 = id1 := by
      rw [eV, List.getD_eq_getElem?_getD]
      simp
    dsimp only at e37 st3
    rw [hlast, ← hNR] at e37
    obtain ⟨m4, s', F4, zs', os', e14, st4, f4, hF4⟩ := A14 m3 false o' r (fun h => by cases h) he
    have st34 := st3.app f4
    obtain ⟨m5, F5, e37', st5, f5, gr5⟩ := A37v (zl := false) (ol := .tok tk 44) hokF h2 h1 good_nil (by simp; omega) st4
    have hnew := load_new g1 hll c1 out.length (Nat.le_refl _)
    have I := load_inv hrv h2 h1 good_nil (by simp; omega) out.length (by omega)
    have I0 := load_inv hrv h2 h1 g1 (by omega) out.length (by omega)
    rw [hLl, hnew] at e37' st5
    rw [hnew] at I
    rw [hsame] at I0
    have hPt : (mapN l1 out).take out.length = mapN l1 out := by rw [← hPl, List.take_length]
    rw [hPt] at st5 I
    dsimp only at e37' st5 I I0
    rw [← hNR] at e37'
    obtain ⟨a1, a2, a3⟩ := I.at_ (out.length - 1) (by omega)
    obtain ⟨b1, b2, b3⟩ := I0.at_ (out.length - 1) (by omega)
    rw [List.take_length, hlast] at b3
    generalize hx : (List.range out.length).getD (out.length - 1) 0 = x at *
    have tab2 : TabV r (mapN l1 out) x 0 t := by
      refine ⟨tab1.len, a1, fun hh => ?_, fun y hy => ?_⟩
      · have := abv_ub I.g a1
        rw [abvD_at a1] at this
        exact this.1
      · rw [a3 y hy, ← b3 y hy]
        exact tab1.val y hy
    have st35 : St8 m5 s F3 (IA zs os r) 4000 l1 := st34.fr f5 fun y hy hh => by
      have := st3.lt y hy
      have := hF4 y hh
      omega
    have e20b := A20 st35 (by omega)
    obtain ⟨m6, e34, f6⟩ := A34 st5 I.g h2 (by omega) (by omega) h1 hN2 tab2 false zt o' ot
    have st6 := st5.app f6
    have e20c := A20 st6 (by omega)
    have p46 : ∀ m, pcall (AP cfg) none m 46 [IA false o' r, IA zt ot t] = some (NL false .no (mapN l1 out), m) := fun m => by
      rw [pcall2 (fz_IA false o' r) (fz_IA zt ot t), V46 g1 h2 hll h1 hN2 tab1, hout]; rfl
    have p45 : ∀ m, pcall (AP cfg) none m 45 [NL false .no (mapN l1 out)] = some (NL false .no (mapN l1 out), m) := fun m => by
      rw [pcall1 (fz_NL false .no _), V45 _ _ _ (by omega) hne]; rfl
    have p39 : ∀ o m, pcall (AP cfg) none m 39 [NL false o (mapN l1 out)] = some (NL false .no (mapN l1 out), m) := fun o m => by
      rw [pcall1 (fz_NL false o _), V39 _ _ _ (by omega) hne]; rfl
    rw [e28, Option.bind_some, e29, Option.bind_some, show extractA (.tup [.ptr s 0, .int .i64 (id1 : Nat), .bool true]) 0 = some (.ptr s 0) from rfl, Option.bind_some, show extractA (.tup [.ptr s 0, .int .i64 (id1 : Nat), .bool true]) 1 = some (.int .i64 (id1 : Nat)) from rfl, Option.bind_some, show extractA (.tup [.ptr s 0, .int .i64 (id1 : Nat), .bool true]) 2 = some (.bool true) from rfl, Option.bind_some, un_not, Option.bind_some, Bool.not_true, ifA_f,
      e25, Option.bind_some, ex0, Option.bind_some, ex1, Option.bind_some, e20, Option.bind_some, e37, Option.bind_some, ex0, Option.bind_some, ex1, Option.bind_some, e14, Option.bind_some, ex0, Option.bind_some, ex1, Option.bind_some, e37', Option.bind_some, ex0, Option.bind_some, ex1, Option.bind_some]
    simp only [binA_eql, Option.bind_some, ifA_dec, if_true]
    rw [e20b, Option.bind_some]
    simp only [binA_eql, Option.bind_some, ifA_dec, if_true]
    rw [e34, Option.bind_some, ifA_t, e20c, Option.bind_some, len_NL, Option.bind_some]
    simp only [binA_eql, Option.bind_some, ifA_dec, if_true]
    rw [p46, Option.bind_some, p45, Option.bind_some, p39, Option.bind_some, p39, Option.bind_some, pc22 _ _ _ _ _ _ hok hok (by omega), Option.bind_some, decide_eq_true rfl, ifA_t, pc13, Option.bind_some]
    exact ⟨_, rfl⟩
  · rw [if_pos he, pc13, Option.bind_some]
    exact ⟨_, rfl⟩
end Go.Ab

/- What the interpreter does, function by function. -/
set_option maxRecDepth 100000
set_option linter.unusedVariables false
namespace Go.Ab
open Go.Proofs.Tryd
/-! ### sortilege/sortilegelaw23.DiagramSteps -/
def O3_10 (x5 x7 : AV) (m : Mem) : St := ⟨[.any, .any, .any, .any, .any, x5, .any, x7, .any, .any, .any, .any, .any, .any, .any, .any, .any, .any, .any, .any, .any, .any, .any, .any, .any, .any, .any, .any, .any, .any, .any, .any, .any, .any, .any, .any, .any, .any, .any, .any, .any, .any, .any, .any, .any, .any, .any, .any, .any, .any, .any, .any, .any, .any, .any, .any, .any, .any, .any, .any, .any, .any, .any, .any, .any, .any, .any, .any, .any, .any, .any, .any, .any, .any, .any, .any, .any, .any, .any, .any, .any, .any, .any, .any, .any, .any, .any, .any, .any, .any, .any, .any, .any, .any, .any, .any, .any, .any, .any, .any, .any, .any, .any, .any, .any, .any, .any, .any, .any, .any, .any, .any, .any, .any, .any, .any, .any, .any, .any, .any, .any, .any, .any, .any, .any, .any, .any, .any, .any, .any, .any, .any, .any, .any, .any, .any, .any, .any, .any, .any, .any, .any, .any, .any, .any, .any, .any, .any, .any, .any, .any, .any, .any, .any, .any, .any, .any, .any, .any, .any, .any, .any, .any, .any, .any, .any, .any, .any, .any, .any, .any, .any], m⟩
def R3_10 (x4 : AV) (m : Mem) : St := ⟨[.any, .any, .any, .any, x4, .any, .any, .any, .any, .any, .any, .any, .any, .any, .any, .any, .any, .any, .any, .any, .any, .any, .any, .any, .any, .any, .any, .any, .any, .any, .any, .any, .any, .any, .any, .any, .any, .any, .any, .any, .any, .any, .any, .any, .any, .any, .any, .any, .any, .any, .any, .any, .any, .any, .any, .any, .any, .any, .any, .any, .any, .any, .any, .any, .any, .any, .any, .any, .any, .any, .any, .any, .any, .any, .any, .any, .any, .any, .any, .any, .any, .any, .any, .any, .any, .any, .any, .any, .any, .any, .any, .any, .any, .any, .any, .any, .any, .any, .any, .any, .any, .any, .any, .any, .any, .any, .any, .any, .any, .any, .any, .any, .any, .any, .any, .any, .any, .any, .any, .any, .any, .any, .any, .any, .any, .any, .any, .any, .any, .any, .any, .any, .any, .any, .any, .any, .any, .any, .any, .any, .any, .any, .any, .any, .any, .any, .any, .any, .any, .any, .any, .any, .any, .any, .any, .any, .any, .any, .any, .any, .any, .any, .any, .any, .any, .any, .any, .any, .any, .any, .any, .any], m⟩
noncomputable def L3_10 (x0 x5 x7 x41 x42 x43 : AV) (m : Mem) (K : Ex → St → Option (AV × Mem)) : Option (AV × Mem) := loopW (execW cfg 3 (AP cfg) (AC cfg) (c1 (c1 (c2 (c1 (c2 (c2 (c2 (c2 (c2 (c2 (c2 (bodyOf f3))))))))))))) (cfg.mask 3 (some 10)) ⟨[x0, .any, .any, .any, .any, x5, .any, x7, .any, .any, .any, .any, .any, .any, .any, .any, .any, .any, .any, .any, .any, .any, .any, .any, .any, .any, .any, .any, .any, .any, .any, .any, .any, .any, .any, .any, .any, .any, .any, .any, .any, x41, x42, x43, .any, .any, .any, .any, .any, .any, .any, .any, .any, .any, .any, .any, .any, .any, .any, .any, .any, .any, .any, .any, .any, .any, .any, .any, .any, .any, .any, .any, .any, .any, .any, .any, .any, .any, .any, .any, .any, .any, .any, .any, .any, .any, .any, .any, .any, .any, .any, .any, .any, .any, .any, .any, .any, .any, .any, .any, .any, .any, .any, .any, .any, .any, .any, .any, .any, .any, .any, .any, .any, .any, .any, .any, .any, .any, .any, .any, .any, .any, .any, .any, .any, .any, .any, .any, .any, .any, .any, .any, .any, .any, .any, .any, .any, .any, .any, .any, .any, .any, .any, .any, .any, .any, .any, .any, .any, .any, .any, .any, .any, .any, .any, .any, .any, .any, .any, .any, .any, .any, .any, .any, .any, .any, .any, .any, .any, .any, .any, .any], m⟩ K
noncomputable abbrev K3_10_0 (K : Ex → St → Option (AV × Mem)) : Ex → St → Option (AV × Mem) := seqK (fun st => execW cfg 3 (AP cfg) (AC cfg) (c2 (c2 (c2 (c2 (c2 (c2 (c2 (c2 (bodyOf f3))))))))) st K) K
noncomputable abbrev K3_10_1 (K : Ex → St → Option (AV × Mem)) : Ex → St → Option (AV × Mem) := blockK 0 (K3_10_0 K)
noncomputable abbrev K3_10 (K : Ex → St → Option (AV × Mem)) : Ex → St → Option (AV × Mem) := (K3_10_1 K)
theorem T3 (a0 a1 : AV) (m : Mem) : AC cfg 3 [a0, a1] m =
  (pcall (AP cfg) none m 11 [a0]).bind fun r1 =>
  (lenA false a1).bind fun v2 =>
  (maxA false v2 (.int .i64 60)).bind fun v3 =>
  (sliceT (some 3) a1 none (some v3) none).bind fun v4 =>
  (pcall (AP cfg) none r1.2 12 [r1.1]).bind fun r5 =>
  (binA .other .neq r5.1 (.int .i64 0)).bind fun v6 =>
  ifA v6 (
  (pcall (AP cfg) none r5.2 13 []).bind fun r7 =>
  some (r7.1, r7.2)) (
  (AC cfg 14 [r1.1] r5.2).bind fun r8 =>
  (extractA r8.1 0).bind fun v9 =>
  (extractA r8.1 1).bind fun v10 =>
  (binA .other .neq v10 (.int .i64 0)).bind fun v11 =>
  ifA v11 (
  some ((.bool false), r8.2)) (
  (lenA false v4).bind fun v12 =>
  L3_10 r1.1 v9 (.lst none true .full []) v4 v12 (.int .i64 0) r8.2 (K3_10 (finK cfg.P f3.results.toList)))) :=
(AC_eq cfg 3 [a0, a1] m (fn := f3) (c := bodyOf f3) at3 rfl).trans (by kernel_rfl)
theorem L3_10_eq (x0 x5 x7 x41 x42 x43 : AV) (m : Mem) (K : Ex → St → Option (AV × Mem)) : L3_10 x0 x5 x7 x41 x42 x43 m K =
  (binA .other .lss x43 x42).bind fun v1 =>
  ifA v1 (
  (indexAddrA (some 3) x41 x43).bind fun v2 =>
  (loadA (some 3) m v2).bind fun v3 =>
  (storeA (some 3) (newAt none m (.obj true [(.int .i64 0), (.int .i64 0), (.lst none true .full [])])).2 (.ptr (newAt none m .resv).1 0) v3).bind fun m4 =>
  (fieldAddrA 0 (.ptr (newAt none m .resv).1 0)).bind fun v5 =>
  (loadA none m4 v5).bind fun v6 =>
  (binA .other .rem v6 (.int .i64 2)).bind fun v7 =>
  (binA .other .eql v7 (.int .i64 0)).bind fun v8 =>
  ifA v8 (
  (fieldAddrA 1 (.ptr (newAt none m .resv).1 0)).bind fun v9 =>
  (loadA none m4 v9).bind fun v10 =>
  (AC cfg 15 [x5, v10] m4).bind fun r11 =>
  (extractA r11.1 0).bind fun v12 =>
  (extractA r11.1 1).bind fun v13 =>
  (fieldAddrA 1 (.ptr (newAt none m .resv).1 0)).bind fun v14 =>
  (loadA none r11.2 v14).bind fun v15 =>
  (binA .other .geq v15 (.int .i64 0)).bind fun v16 =>
  ifA v16 (
  (fieldAddrA 1 (.ptr (newAt none m .resv).1 0)).bind fun v17 =>
  (loadA none r11.2 v17).bind fun v18 =>
  (binA .other .leq v18 (.int .i64 2147483647)).bind fun v19 =>
  ifA v19 (
  (fieldAddrA 1 (.ptr (newAt none m .resv).1 0)).bind fun v20 =>
  (loadA none r11.2 v20).bind fun v21 =>
  (buildA (.agg [(.int .i64 0), (.lst none true .full []), (.int .i64 0)]) [(0, none, (.int .i64 (-1))), (2, none, v21)]).bind fun v22 =>
  (AC cfg 16 [x7, v22] r11.2).bind fun r23 =>
  (extractA r23.1 0).bind fun v24 =>
  (extractA r23.1 1).bind fun v25 =>
  (binA .other .neq v13 (.int .i64 0)).bind fun v26 =>
  ifA v26 (
  K .ret (R3_10 (.bool false) r23.2)) (
  (binA .other .neq v12 v25).bind fun v27 =>
  ifA v27 (
  K .ret (R3_10 (.bool false) r23.2)) (
  (AC cfg 20 [x5] r23.2).bind fun r28 =>
  (lenA false v24).bind fun v29 =>
  (binA .other .neq r28.1 v29).bind fun v30 =>
  ifA v30 (
  K .ret (R3_10 (.bool false) r28.2)) (
  (binA .other .add x43 (.int .i64 1)).bind fun v31 =>
  L3_10 x0 x5 v24 x41 x42 v31 r28.2 K)))) (
  (binA .other .neq v13 (.int .i64 1)).bind fun v32 =>
  ifA v32 (
  K .ret (R3_10 (.bool false) r11.2)) (
  (binA .other .neq v12 (.int .i64 0)).bind fun v33 =>
  ifA v33 (
  K .ret (R3_10 (.bool false) r11.2)) (
  (AC cfg 20 [x5] r11.2).bind fun r34 =>
  (lenA false x7).bind fun v35 =>
  (binA .other .neq r34.1 v35).bind fun v36 =>
  ifA v36 (
  K .ret (R3_10 (.bool false) r34.2)) (
  (binA .other .add x43 (.int .i64 1)).bind fun v37 =>
  L3_10 x0 x5 x7 x41 x42 v37 r34.2 K))))) (
  (binA .other .neq v13 (.int .i64 1)).bind fun v38 =>
  ifA v38 (
  K .ret (R3_10 (.bool false) r11.2)) (
  (binA .other .neq v12 (.int .i64 0)).bind fun v39 =>
  ifA v39 (
  K .ret (R3_10 (.bool false) r11.2)) (
  (AC cfg 20 [x5] r11.2).bind fun r40 =>
  (lenA false x7).bind fun v41 =>
  (binA .other .neq r40.1 v41).bind fun v42 =>
  ifA v42 (
  K .ret (R3_10 (.bool false) r40.2)) (
  (binA .other .add x43 (.int .i64 1)).bind fun v43 =>
  L3_10 x0 x5 x7 x41 x42 v43 r40.2 K))))) (
  (fieldAddrA 2 (.ptr (newAt none m .resv).1 0)).bind fun v44 =>
  (loadA none m4 v44).bind fun v45 =>
  (fieldAddrA 2 (.ptr (newAt none m .resv).1 0)).bind fun v46 =>
  (loadA none m4 v46).bind fun v47 =>
  (lenA false v47).bind fun v48 =>
  (maxA false v48 (.int .i64 70)).bind fun v49 =>
  (sliceT none v45 none (some v49) none).bind fun v50 =>
  (fieldAddrA 1 (.ptr (newAt none m .resv).1 0)).bind fun v51 =>
  (loadA none m4 v51).bind fun v52 =>
  (AC cfg 17 [x5, v52, v50] m4).bind fun r53 =>
  (extractA r53.1 0).bind fun v54 =>
  (extractA r53.1 1).bind fun v55 =>
  (fieldAddrA 1 (.ptr (newAt none m .resv).1 0)).bind fun v56 =>
  (loadA none r53.2 v56).bind fun v57 =>
  (pcall (AP cfg) none r53.2 18 [x0, x7, v57, v50]).bind fun r58 =>
  ifA r58.1 (
  (pcall (AP cfg) none r58.2 19 [v50]).bind fun r59 =>
  ifA r59.1 (
  (indexAddrA none v50 (.int .i64 0)).bind fun v60 =>
  (loadA none r59.2 v60).bind fun v61 =>
  (binA .other .neq v55 (.int .i64 0)).bind fun v62 =>
  ifA v62 (
  K .ret (R3_10 (.bool false) r59.2)) (
  (binA .other .neq v54 v61).bind fun v63 =>
  ifA v63 (
  K .ret (R3_10 (.bool false) r59.2)) (
  (AC cfg 20 [x5] r59.2).bind fun r64 =>
  (lenA false x7).bind fun v65 =>
  (binA .other .neq r64.1 v65).bind fun v66 =>
  ifA v66 (
  K .ret (R3_10 (.bool false) r64.2)) (
  (binA .other .add x43 (.int .i64 1)).bind fun v67 =>
  L3_10 x0 x5 x7 x41 x42 v67 r64.2 K)))) (
  (fieldAddrA 1 (.ptr (newAt none m .resv).1 0)).bind fun v68 =>
  (loadA none r59.2 v68).bind fun v69 =>
  (buildSliceA none []).bind fun v70 =>
  (appA none false 3 none 8 r59.2 v70 v50).bind fun r71 =>
  ifP ((loadA none r71.2 v68).bind (fun v => some (v, r71.2)) = some (v69, r71.2)) (
  (buildA (.agg [(.int .i64 0), (.lst none true .full []), (.int .i64 0)]) [(0, none, v69), (1, none, r71.1)]).bind fun v72 =>
  (AC cfg 16 [x7, v72] r71.2).bind fun r73 =>
  (extractA r73.1 0).bind fun v74 =>
  (extractA r73.1 1).bind fun v75 =>
  (binA .other .neq v55 (.int .i64 0)).bind fun v76 =>
  ifA v76 (
  K .ret (R3_10 (.bool false) r73.2)) (
  (binA .other .neq v54 v75).bind fun v77 =>
  ifA v77 (
  K .ret (R3_10 (.bool false) r73.2)) (
  (AC cfg 20 [x5] r73.2).bind fun r78 =>
  (lenA false v74).bind fun v79 =>
  (binA .other .neq r78.1 v79).bind fun v80 =>
  ifA v80 (
  K .ret (R3_10 (.bool false) r78.2)) (
  (binA .other .add x43 (.int .i64 1)).bind fun v81 =>
  L3_10 x0 x5 v74 x41 x42 v81 r78.2 K)))))) (
  (binA .other .neq v55 (.int .i64 1)).bind fun v82 =>
  ifA v82 (
  K .ret (R3_10 (.bool false) r58.2)) (
  (binA .other .neq v54 (.int .i64 0)).bind fun v83 =>
  ifA v83 (
  K .ret (R3_10 (.bool false) r58.2)) (
  (AC cfg 20 [x5] r58.2).bind fun r84 =>
  (lenA false x7).bind fun v85 =>
  (binA .other .neq r84.1 v85).bind fun v86 =>
  ifA v86 (
  K .ret (R3_10 (.bool false) r84.2)) (
  (binA .other .add x43 (.int .i64 1)).bind fun v87 =>
  L3_10 x0 x5 x7 x41 x42 v87 r84.2 K)))))) (
  K (.exit 0) (O3_10 x5 x7 m)) :=
(loopW_eq (execW_lin _) _ _ _).trans (by kernel_rfl)
end Go.Ab

/- DiagramSteps in values. -/
set_option linter.unusedVariables false
set_option linter.unusedSimpArgs false
set_option linter.unusedSectionVars false
set_option maxRecDepth 100000
namespace Go.Ab
open Go.Proofs Go.Proofs.Tryd

structure SP where
  kind : Int
  a : Int
  kz : Bool
  kids : List Int
def SP.av (x : SP) : AV := .agg [.int .i64 x.kind, .int .i64 x.a, IA x.kz .no x.kids]
abbrev SL (z : Bool) (o : Own) (l : List SP) : AV := .lst (some 3) z o (l.map SP.av)
theorem idx_SL {z : Bool} {o : Own} {l : List SP} {i : Nat} (hi : i < l.length) : indexAddrA (some 3) (SL z o l) (.int .i64 i) = some (.vptr [.int .i64 l[i].kind, .int .i64 l[i].a, IA l[i].kz .no l[i].kids]) := by
  simp [indexAddrA, hi]; rfl
theorem st_new3 {m : Mem} {a b c a' b' c' : AV} (hs : shOk (some 3) (.agg [a', b', c']) = true) : storeA (some 3) (m ++ [some (Ent.obj true [a, b, c])]) (.ptr m.length 0) (.agg [a', b', c']) = some (m ++ [some (Ent.obj true [a', b', c'])]) := by
  rw [st_ptr, g_eq rfl, objE_obj, Option.bind_some]
  simp [putE1, Sh.size, hs, putAt, AV.cells]
theorem rem2 (tk : TK) (a : Int) : binA tk .rem (.int .i64 a) (.int .i64 2) = some (.int .i64 (a.tmod 2)) := by cases tk <;> rfl
/-- The store and the law's own row hold the same nodes. -/
structure Inv3 (m : Mem) (s : Nat) (F : List Nat) (arms : AV) (l : List ND) (x : AV) (T : List Nat) : Prop where
  st : St8 m s F arms 4000 l
  nr : NR 39 m x l T
  dj : ∀ k ∈ F, k ∉ T
  kn : kidsNe l
theorem St8.ok {m : Mem} {s : Nat} {F : List Nat} {arms : AV} {most : Int} {l : List ND} (h : St8 m s F arms most l) : ∀ x ∈ l, x.ok := by
  obtain ⟨p, na, T, h, _⟩ := h
  exact h.ok
theorem Inv3.app {m m' : Mem} {s : Nat} {F : List Nat} {arms : AV} {l : List ND} {x : AV} {T : List Nat} (h : Inv3 m s F arms l x T) (f : Fr m m' []) : Inv3 m' s F arms l x T :=
  ⟨h.st.app f, nr_move h.nr fun k hk => f.get k (nr_lt h.nr k hk) (by simp), h.dj, h.kn⟩
/-- Behind a call on the store. -/
theorem nr_after {m m' : Mem} {s : Nat} {F F' : List Nat} {arms : AV} {l : List ND} {x : AV} {T : List Nat} (h : Inv3 m s F arms l x T) (f : Fr m m' F) (g : Gr m F F') : NR 39 m' x l T ∧ ∀ k ∈ F', k ∉ T :=
  ⟨nr_move h.nr fun k hk => f.get k (nr_lt h.nr k hk) (fun hF => h.dj k hF hk), fun k hk hT => by
    rcases g k hk with h1 | h1
    · exact h.dj k h1 hT
    · have := nr_lt h.nr k hT; omega⟩
theorem kidsNe_ins {l : List ND} (h : kidsNe l) {n : ND} (hn : ¬ n.var < 0 → n.kids ≠ []) : kidsNe (ins l n) := by
  unfold ins
  split
  · exact h
  · intro x hx
    rcases List.mem_append.1 hx with hx | hx
    · exact h x hx
    · obtain rfl : x = n := by simpa using hx
      exact hn
theorem ins_len (l : List ND) (n : ND) : (ins l n).length ≤ l.length + 1 := by unfold ins; split <;> simp
/-- The law's own row follows. -/
theorem both_put {m m2 : Mem} {s : Nat} {F F2 : List Nat} {arms : AV} {l : List ND} {x : AV} {T : List Nat} (h : Inv3 m s F arms l x T) {n : ND} (hn : n.ok) (hne : ¬ n.var < 0 → n.kids ≠ []) {z : Bool} {o : Own} (hk : stripA (.lst none z o (n.kids.map (AV.int .i64))) = kidsA n) (hl : l.length ≤ 1000)
    (k1 : St8 m2 s F2 arms 4000 (ins l n)) (f : Fr m m2 F) (g : Gr m F F2) :
    ∃ m3 x3 T3, AC cfg 16 [x, .agg [.int .i64 n.var, .lst none z o (n.kids.map (AV.int .i64)), .int .i64 n.leaf]] m2 = some (.tup [x3, .int .i64 (l.idxOf n : Nat)], m3) ∧ Inv3 m3 s F2 arms (ins l n) x3 T3 ∧ Fr m2 m3 T := by
  obtain ⟨n1, n2⟩ := nr_after h f g
  obtain ⟨m3, x3, T3, e, a1, a2, a3⟩ := A16 n1 h.st.ok hn hk (by omega)
  refine ⟨m3, x3, T3, e, ⟨k1.fr a2 n2, a1, fun k hk hT => ?_, kidsNe_ins h.kn hne⟩, a2⟩
  rcases a3 k hT with h1 | h1
  · exact n2 k hk h1
  · have := k1.lt k hk; omega
theorem W3 {z zs zl : Bool} {o os ol : Own} {ar : List Int} {s : Nat} (har : armsE ar = 0) (sts : List SP) (hz : ∀ x ∈ sts, x.kz = true → x.kids = []) (hlen : sts.length ≤ 60) (fin : ∀ m F x l T, Inv3 m s F (IA zs os ar) l x T → l.length ≤ 60 → ∃ m', K3_10 (finK cfg.P f3.results.toList) (.exit 0) (O3_10 (.ptr s 0) x m) = some (.bool true, m')) :
    ∀ (j i : Nat) (m : Mem) (F : List Nat) (l : List ND) (x : AV) (T : List Nat), i + j = sts.length → Inv3 m s F (IA zs os ar) l x T → l.length ≤ i →
      ∃ m', L3_10 (IA z o ar) (.ptr s 0) x (SL zl ol sts) (.int .i64 sts.length) (.int .i64 i) m (K3_10 (finK cfg.P f3.results.toList)) = some (.bool true, m') := by
  obtain ⟨har1, har2⟩ := armsE_ok har
  intro j
  induction j with
  | zero =>
    intro i m F l x T hi h hl
    rw [L3_10_eq, n_lss, Option.bind_some, ifA_dec, if_neg (by omega)]
    exact fin m F x l T h (by omega)
  | succ j ih =>
    intro i m F l x T hi h hl
    have hil : i < sts.length := by omega
    have hix := idx_SL (z := zl) (o := ol) hil
    have hzi := hz _ (List.getElem_mem hil)
    generalize sts[i] = sp at hix hzi
    obtain ⟨kind, a, kz, kids⟩ := sp
    simp only at hix hzi
    have sn := st_new3 (m := m) (a := .int .i64 0) (b := .int .i64 0) (c := .lst none true .full []) (a' := .int .i64 kind) (b' := .int .i64 a) (c' := IA kz .no kids) rfl
    have h4 := h.app (Fr.app m (some (Ent.obj true [.int .i64 kind, .int .i64 a, IA kz .no kids])) [])
    generalize hm4 : m ++ [some (Ent.obj true [.int .i64 kind, .int .i64 a, IA kz .no kids])] = m4 at sn h4
    have g4 : m4.get m.length = some (Ent.obj true [.int .i64 kind, .int .i64 a, IA kz .no kids]) := by rw [← hm4]; exact (by simp (disch := (first | assumption | omega | (simp only [List.length_append, List.length_set, List.length_cons, List.length_nil]; first | done | omega))) only [resv1, g_lt, g_eq, g_sne, g_seq]; first | done | rfl)
    have l4 : m4.length = m.length + 1 := by rw [← hm4]; simp
    have notF : m.length ∉ F := fun hx => by have := h.st.lt _ hx; omega
    rw [L3_10_eq, n_lss, Option.bind_some, ifA_dec, if_pos hil]
    repeat ((with_reducible (first | apply bs | apply bsy)); (focus (first | (simp (disch := (first | assumption | omega | (simp only [List.length_append, List.length_set, List.length_cons, List.length_nil]; first | done | omega))) only [List.all_cons, List.all_nil, Bool.and_true, Bool.and_self, beq_self_eq_true, resv1, List.length_map, ld_v3, ld_v1, binA_eql, binA_neq, binA_lss, binA_leq, binA_gtr, binA_geq, loadA_one, un_not, ld_ptr, st_ptr, putE1, objE_obj, Option.bind_some, cut1, cut3, cut4, nil_ptr, fa_ptr, g_lt, g_eq, g_sne, g_seq, new_n, box_n, List.getElem?_cons_zero, List.getElem?_cons_succ, ex0, ex1, Sh.size, cells_int, aok_int, cells_bool, aok_bool, cells_str, aok_str, cells_lst, aok_lst, cells_ptr, aok_ptr, cells_arr, aok_arr, cells_fn, aok_fn, cells_mref, aok_mref, cells_nilp, aok_nilp, cells_agg, shOk_n, shOk_s, lenA_lst, List.length_cons, List.length_nil, if_true, putAt, List.take_succ_cons, List.take_zero, List.drop_succ_cons, List.drop_zero, List.cons_append, List.nil_append, List.append_nil, Nat.zero_add, Nat.reduceAdd, Nat.reduceLeDiff, Nat.le_refl, List.drop_nil, List.take_nil, List.length_append, List.length_set, hix, sn, g4, rem2]; first | done | rfl) | rfl)); try dsimp only)
    rw [ifA_dec]
    by_cases hk : kind.tmod 2 = 0
    · rw [if_pos hk]
      obtain ⟨m2, F2, e15, k1, k2, k3⟩ := A15 h4.st a (by omega) (by omega)
      have g2 : m2.get m.length = some (Ent.obj true [.int .i64 kind, .int .i64 a, IA kz .no kids]) := (k2.get _ (by omega) notF).trans g4
      by_cases ha : 0 ≤ a ∧ a ≤ 2147483647
      · rw [leafR, if_pos ha] at e15 k1
        dsimp only at e15 k1
        obtain ⟨m3, x3, T3, e16, k4, k5⟩ := both_put h4 (leafN_ok ha) (fun hv => absurd (show (-1 : Int) < 0 by decide) hv) (z := true) (o := .full) rfl (by omega) k1 k2 k3
        have e16 : AC cfg 16 [x, .agg [.int .i64 (-1), .lst none true .full [], .int .i64 a]] m2 = _ := e16
        have e20 := A20 k4.st (by omega)
        have hb : buildA (.agg [(.int .i64 0), (.lst none true .full []), (.int .i64 0)]) [(0, none, (.int .i64 (-1))), (2, none, .int .i64 a)] = some (.agg [.int .i64 (-1), .lst none true .full [], .int .i64 a]) := rfl
        repeat ((with_reducible (first | apply bs | apply bsy)); (focus (first | (simp (disch := (first | assumption | omega | (simp only [List.length_append, List.length_set, List.length_cons, List.length_nil]; first | done | omega))) only [List.all_cons, List.all_nil, Bool.and_true, Bool.and_self, beq_self_eq_true, resv1, List.length_map, ld_v3, ld_v1, binA_eql, binA_neq, binA_lss, binA_leq, binA_gtr, binA_geq, loadA_one, un_not, ld_ptr, st_ptr, putE1, objE_obj, Option.bind_some, cut1, cut3, cut4, nil_ptr, fa_ptr, g_lt, g_eq, g_sne, g_seq, new_n, box_n, List.getElem?_cons_zero, List.getElem?_cons_succ, ex0, ex1, Sh.size, cells_int, aok_int, cells_bool, aok_bool, cells_str, aok_str, cells_lst, aok_lst, cells_ptr, aok_ptr, cells_arr, aok_arr, cells_fn, aok_fn, cells_mref, aok_mref, cells_nilp, aok_nilp, cells_agg, shOk_n, shOk_s, lenA_lst, List.length_cons, List.length_nil, if_true, putAt, List.take_succ_cons, List.take_zero, List.drop_succ_cons, List.drop_zero, List.cons_append, List.nil_append, List.append_nil, Nat.zero_add, Nat.reduceAdd, Nat.reduceLeDiff, Nat.le_refl, List.drop_nil, List.take_nil, List.length_append, List.length_set, g4, e15, g2]; first | done | rfl) | rfl)); try dsimp only)
        rw [ifA_dec, if_pos ha.1]
        repeat ((with_reducible (first | apply bs | apply bsy)); (focus (first | (simp (disch := (first | assumption | omega | (simp only [List.length_append, List.length_set, List.length_cons, List.length_nil]; first | done | omega))) only [List.all_cons, List.all_nil, Bool.and_true, Bool.and_self, beq_self_eq_true, resv1, List.length_map, ld_v3, ld_v1, binA_eql, binA_neq, binA_lss, binA_leq, binA_gtr, binA_geq, loadA_one, un_not, ld_ptr, st_ptr, putE1, objE_obj, Option.bind_some, cut1, cut3, cut4, nil_ptr, fa_ptr, g_lt, g_eq, g_sne, g_seq, new_n, box_n, List.getElem?_cons_zero, List.getElem?_cons_succ, ex0, ex1, Sh.size, cells_int, aok_int, cells_bool, aok_bool, cells_str, aok_str, cells_lst, aok_lst, cells_ptr, aok_ptr, cells_arr, aok_arr, cells_fn, aok_fn, cells_mref, aok_mref, cells_nilp, aok_nilp, cells_agg, shOk_n, shOk_s, lenA_lst, List.length_cons, List.length_nil, if_true, putAt, List.take_succ_cons, List.take_zero, List.drop_succ_cons, List.drop_zero, List.cons_append, List.nil_append, List.append_nil, Nat.zero_add, Nat.reduceAdd, Nat.reduceLeDiff, Nat.le_refl, List.drop_nil, List.take_nil, List.length_append, List.length_set, g2]; first | done | rfl) | rfl)); try dsimp only)
        rw [ifA_dec, if_pos ha.2]
        repeat ((with_reducible (first | apply bs | apply bsy)); (focus (first | (simp (disch := (first | assumption | omega | (simp only [List.length_append, List.length_set, List.length_cons, List.length_nil]; first | done | omega))) only [List.all_cons, List.all_nil, Bool.and_true, Bool.and_self, beq_self_eq_true, resv1, List.length_map, ld_v3, ld_v1, binA_eql, binA_neq, binA_lss, binA_leq, binA_gtr, binA_geq, loadA_one, un_not, ld_ptr, st_ptr, putE1, objE_obj, Option.bind_some, cut1, cut3, cut4, nil_ptr, fa_ptr, g_lt, g_eq, g_sne, g_seq, new_n, box_n, List.getElem?_cons_zero, List.getElem?_cons_succ, ex0, ex1, Sh.size, cells_int, aok_int, cells_bool, aok_bool, cells_str, aok_str, cells_lst, aok_lst, cells_ptr, aok_ptr, cells_arr, aok_arr, cells_fn, aok_fn, cells_mref, aok_mref, cells_nilp, aok_nilp, cells_agg, shOk_n, shOk_s, lenA_lst, List.length_cons, List.length_nil, if_true, putAt, List.take_succ_cons, List.take_zero, List.drop_succ_cons, List.drop_zero, List.cons_append, List.nil_append, List.append_nil, Nat.zero_add, Nat.reduceAdd, Nat.reduceLeDiff, Nat.le_refl, List.drop_nil, List.take_nil, List.length_append, List.length_set, g2, hb, e16]; first | done | rfl) | rfl)); try dsimp only)
        rw [ifA_dec, if_neg (by simp)]
        repeat ((with_reducible (first | apply bs | apply bsy)); (focus (first | (simp (disch := (first | assumption | omega | (simp only [List.length_append, List.length_set, List.length_cons, List.length_nil]; first | done | omega))) only [List.all_cons, List.all_nil, Bool.and_true, Bool.and_self, beq_self_eq_true, resv1, List.length_map, ld_v3, ld_v1, binA_eql, binA_neq, binA_lss, binA_leq, binA_gtr, binA_geq, loadA_one, un_not, ld_ptr, st_ptr, putE1, objE_obj, Option.bind_some, cut1, cut3, cut4, nil_ptr, fa_ptr, g_lt, g_eq, g_sne, g_seq, new_n, box_n, List.getElem?_cons_zero, List.getElem?_cons_succ, ex0, ex1, Sh.size, cells_int, aok_int, cells_bool, aok_bool, cells_str, aok_str, cells_lst, aok_lst, cells_ptr, aok_ptr, cells_arr, aok_arr, cells_fn, aok_fn, cells_mref, aok_mref, cells_nilp, aok_nilp, cells_agg, shOk_n, shOk_s, lenA_lst, List.length_cons, List.length_nil, if_true, putAt, List.take_succ_cons, List.take_zero, List.drop_succ_cons, List.drop_zero, List.cons_append, List.nil_append, List.append_nil, Nat.zero_add, Nat.reduceAdd, Nat.reduceLeDiff, Nat.le_refl, List.drop_nil, List.take_nil, List.length_append, List.length_set]; first | done | rfl) | rfl)); try dsimp only)
        rw [ifA_dec, if_neg (by simp)]
        repeat ((with_reducible (first | apply bs | apply bsy)); (focus (first | (simp (disch := (first | assumption | omega | (simp only [List.length_append, List.length_set, List.length_cons, List.length_nil]; first | done | omega))) only [List.all_cons, List.all_nil, Bool.and_true, Bool.and_self, beq_self_eq_true, resv1, List.length_map, ld_v3, ld_v1, binA_eql, binA_neq, binA_lss, binA_leq, binA_gtr, binA_geq, loadA_one, un_not, ld_ptr, st_ptr, putE1, objE_obj, Option.bind_some, cut1, cut3, cut4, nil_ptr, fa_ptr, g_lt, g_eq, g_sne, g_seq, new_n, box_n, List.getElem?_cons_zero, List.getElem?_cons_succ, ex0, ex1, Sh.size, cells_int, aok_int, cells_bool, aok_bool, cells_str, aok_str, cells_lst, aok_lst, cells_ptr, aok_ptr, cells_arr, aok_arr, cells_fn, aok_fn, cells_mref, aok_mref, cells_nilp, aok_nilp, cells_agg, shOk_n, shOk_s, lenA_lst, List.length_cons, List.length_nil, if_true, putAt, List.take_succ_cons, List.take_zero, List.drop_succ_cons, List.drop_zero, List.cons_append, List.nil_append, List.append_nil, Nat.zero_add, Nat.reduceAdd, Nat.reduceLeDiff, Nat.le_refl, List.drop_nil, List.take_nil, List.length_append, List.length_set, e20, nr_len k4.nr]; first | done | rfl) | rfl)); try dsimp only)
        rw [ifA_dec, if_neg (by simp), i_add1 (by omega), Option.bind_some]
        exact ih (i + 1) m3 F2 _ x3 T3 (by omega) k4 (by have := ins_len l (leafN a); omega)
      · rw [leafR, if_neg ha] at e15 k1
        dsimp only at e15 k1
        obtain ⟨n1, n2⟩ := nr_after h4 k2 k3
        have e20 := A20 k1 (by omega)
        have nxt := ih (i + 1) m2 F2 l x T (by omega) ⟨k1, n1, n2, h.kn⟩ (by omega)
        have ln := nr_len n1
        repeat ((with_reducible (first | apply bs | apply bsy)); (focus (first | (simp (disch := (first | assumption | omega | (simp only [List.length_append, List.length_set, List.length_cons, List.length_nil]; first | done | omega))) only [List.all_cons, List.all_nil, Bool.and_true, Bool.and_self, beq_self_eq_true, resv1, List.length_map, ld_v3, ld_v1, binA_eql, binA_neq, binA_lss, binA_leq, binA_gtr, binA_geq, loadA_one, un_not, ld_ptr, st_ptr, putE1, objE_obj, Option.bind_some, cut1, cut3, cut4, nil_ptr, fa_ptr, g_lt, g_eq, g_sne, g_seq, new_n, box_n, List.getElem?_cons_zero, List.getElem?_cons_succ, ex0, ex1, Sh.size, cells_int, aok_int, cells_bool, aok_bool, cells_str, aok_str, cells_lst, aok_lst, cells_ptr, aok_ptr, cells_arr, aok_arr, cells_fn, aok_fn, cells_mref, aok_mref, cells_nilp, aok_nilp, cells_agg, shOk_n, shOk_s, lenA_lst, List.length_cons, List.length_nil, if_true, putAt, List.take_succ_cons, List.take_zero, List.drop_succ_cons, List.drop_zero, List.cons_append, List.nil_append, List.append_nil, Nat.zero_add, Nat.reduceAdd, Nat.reduceLeDiff, Nat.le_refl, List.drop_nil, List.take_nil, List.length_append, List.length_set, g4, e15, g2]; first | done | rfl) | rfl)); try dsimp only)
        rw [ifA_dec]
        by_cases ha0 : a ≥ 0
        · rw [if_pos ha0]
          repeat ((with_reducible (first | apply bs | apply bsy)); (focus (first | (simp (disch := (first | assumption | omega | (simp only [List.length_append, List.length_set, List.length_cons, List.length_nil]; first | done | omega))) only [List.all_cons, List.all_nil, Bool.and_true, Bool.and_self, beq_self_eq_true, resv1, List.length_map, ld_v3, ld_v1, binA_eql, binA_neq, binA_lss, binA_leq, binA_gtr, binA_geq, loadA_one, un_not, ld_ptr, st_ptr, putE1, objE_obj, Option.bind_some, cut1, cut3, cut4, nil_ptr, fa_ptr, g_lt, g_eq, g_sne, g_seq, new_n, box_n, List.getElem?_cons_zero, List.getElem?_cons_succ, ex0, ex1, Sh.size, cells_int, aok_int, cells_bool, aok_bool, cells_str, aok_str, cells_lst, aok_lst, cells_ptr, aok_ptr, cells_arr, aok_arr, cells_fn, aok_fn, cells_mref, aok_mref, cells_nilp, aok_nilp, cells_agg, shOk_n, shOk_s, lenA_lst, List.length_cons, List.length_nil, if_true, putAt, List.take_succ_cons, List.take_zero, List.drop_succ_cons, List.drop_zero, List.cons_append, List.nil_append, List.append_nil, Nat.zero_add, Nat.reduceAdd, Nat.reduceLeDiff, Nat.le_refl, List.drop_nil, List.take_nil, List.length_append, List.length_set, g2]; first | done | rfl) | rfl)); try dsimp only)
          rw [ifA_dec, if_neg (by omega)]
          repeat ((with_reducible (first | apply bs | apply bsy)); (focus (first | (simp (disch := (first | assumption | omega | (simp only [List.length_append, List.length_set, List.length_cons, List.length_nil]; first | done | omega))) only [List.all_cons, List.all_nil, Bool.and_true, Bool.and_self, beq_self_eq_true, resv1, List.length_map, ld_v3, ld_v1, binA_eql, binA_neq, binA_lss, binA_leq, binA_gtr, binA_geq, loadA_one, un_not, ld_ptr, st_ptr, putE1, objE_obj, Option.bind_some, cut1, cut3, cut4, nil_ptr, fa_ptr, g_lt, g_eq, g_sne, g_seq, new_n, box_n, List.getElem?_cons_zero, List.getElem?_cons_succ, ex0, ex1, Sh.size, cells_int, aok_int, cells_bool, aok_bool, cells_str, aok_str, cells_lst, aok_lst, cells_ptr, aok_ptr, cells_arr, aok_arr, cells_fn, aok_fn, cells_mref, aok_mref, cells_nilp, aok_nilp, cells_agg, shOk_n, shOk_s, lenA_lst, List.length_cons, List.length_nil, if_true, putAt, List.take_succ_cons, List.take_zero, List.drop_succ_cons, List.drop_zero, List.cons_append, List.nil_append, List.append_nil, Nat.zero_add, Nat.reduceAdd, Nat.reduceLeDiff, Nat.le_refl, List.drop_nil, List.take_nil, List.length_append, List.length_set]; first | done | rfl) | rfl)); try dsimp only)
          rw [ifA_dec, if_neg (by simp)]
          repeat ((with_reducible (first | apply bs | apply bsy)); (focus (first | (simp (disch := (first | assumption | omega | (simp only [List.length_append, List.length_set, List.length_cons, List.length_nil]; first | done | omega))) only [List.all_cons, List.all_nil, Bool.and_true, Bool.and_self, beq_self_eq_true, resv1, List.length_map, ld_v3, ld_v1, binA_eql, binA_neq, binA_lss, binA_leq, binA_gtr, binA_geq, loadA_one, un_not, ld_ptr, st_ptr, putE1, objE_obj, Option.bind_some, cut1, cut3, cut4, nil_ptr, fa_ptr, g_lt, g_eq, g_sne, g_seq, new_n, box_n, List.getElem?_cons_zero, List.getElem?_cons_succ, ex0, ex1, Sh.size, cells_int, aok_int, cells_bool, aok_bool, cells_str, aok_str, cells_lst, aok_lst, cells_ptr, aok_ptr, cells_arr, aok_arr, cells_fn, aok_fn, cells_mref, aok_mref, cells_nilp, aok_nilp, cells_agg, shOk_n, shOk_s, lenA_lst, List.length_cons, List.length_nil, if_true, putAt, List.take_succ_cons, List.take_zero, List.drop_succ_cons, List.drop_zero, List.cons_append, List.nil_append, List.append_nil, Nat.zero_add, Nat.reduceAdd, Nat.reduceLeDiff, Nat.le_refl, List.drop_nil, List.take_nil, List.length_append, List.length_set]; first | done | rfl) | rfl)); try dsimp only)
          rw [ifA_dec, if_neg (by simp)]
          repeat ((with_reducible (first | apply bs | apply bsy)); (focus (first | (simp (disch := (first | assumption | omega | (simp only [List.length_append, List.length_set, List.length_cons, List.length_nil]; first | done | omega))) only [List.all_cons, List.all_nil, Bool.and_true, Bool.and_self, beq_self_eq_true, resv1, List.length_map, ld_v3, ld_v1, binA_eql, binA_neq, binA_lss, binA_leq, binA_gtr, binA_geq, loadA_one, un_not, ld_ptr, st_ptr, putE1, objE_obj, Option.bind_some, cut1, cut3, cut4, nil_ptr, fa_ptr, g_lt, g_eq, g_sne, g_seq, new_n, box_n, List.getElem?_cons_zero, List.getElem?_cons_succ, ex0, ex1, Sh.size, cells_int, aok_int, cells_bool, aok_bool, cells_str, aok_str, cells_lst, aok_lst, cells_ptr, aok_ptr, cells_arr, aok_arr, cells_fn, aok_fn, cells_mref, aok_mref, cells_nilp, aok_nilp, cells_agg, shOk_n, shOk_s, lenA_lst, List.length_cons, List.length_nil, if_true, putAt, List.take_succ_cons, List.take_zero, List.drop_succ_cons, List.drop_zero, List.cons_append, List.nil_append, List.append_nil, Nat.zero_add, Nat.reduceAdd, Nat.reduceLeDiff, Nat.le_refl, List.drop_nil, List.take_nil, List.length_append, List.length_set, e20, ln]; first | done | rfl) | rfl)); try dsimp only)
          rw [ifA_dec, if_neg (by simp), i_add1 (by omega), Option.bind_some]
          exact nxt
        · rw [if_neg ha0]
          repeat ((with_reducible (first | apply bs | apply bsy)); (focus (first | (simp (disch := (first | assumption | omega | (simp only [List.length_append, List.length_set, List.length_cons, List.length_nil]; first | done | omega))) only [List.all_cons, List.all_nil, Bool.and_true, Bool.and_self, beq_self_eq_true, resv1, List.length_map, ld_v3, ld_v1, binA_eql, binA_neq, binA_lss, binA_leq, binA_gtr, binA_geq, loadA_one, un_not, ld_ptr, st_ptr, putE1, objE_obj, Option.bind_some, cut1, cut3, cut4, nil_ptr, fa_ptr, g_lt, g_eq, g_sne, g_seq, new_n, box_n, List.getElem?_cons_zero, List.getElem?_cons_succ, ex0, ex1, Sh.size, cells_int, aok_int, cells_bool, aok_bool, cells_str, aok_str, cells_lst, aok_lst, cells_ptr, aok_ptr, cells_arr, aok_arr, cells_fn, aok_fn, cells_mref, aok_mref, cells_nilp, aok_nilp, cells_agg, shOk_n, shOk_s, lenA_lst, List.length_cons, List.length_nil, if_true, putAt, List.take_succ_cons, List.take_zero, List.drop_succ_cons, List.drop_zero, List.cons_append, List.nil_append, List.append_nil, Nat.zero_add, Nat.reduceAdd, Nat.reduceLeDiff, Nat.le_refl, List.drop_nil, List.take_nil, List.length_append, List.length_set]; first | done | rfl) | rfl)); try dsimp only)
          rw [ifA_dec, if_neg (by simp)]
          repeat ((with_reducible (first | apply bs | apply bsy)); (focus (first | (simp (disch := (first | assumption | omega | (simp only [List.length_append, List.length_set, List.length_cons, List.length_nil]; first | done | omega))) only [List.all_cons, List.all_nil, Bool.and_true, Bool.and_self, beq_self_eq_true, resv1, List.length_map, ld_v3, ld_v1, binA_eql, binA_neq, binA_lss, binA_leq, binA_gtr, binA_geq, loadA_one, un_not, ld_ptr, st_ptr, putE1, objE_obj, Option.bind_some, cut1, cut3, cut4, nil_ptr, fa_ptr, g_lt, g_eq, g_sne, g_seq, new_n, box_n, List.getElem?_cons_zero, List.getElem?_cons_succ, ex0, ex1, Sh.size, cells_int, aok_int, cells_bool, aok_bool, cells_str, aok_str, cells_lst, aok_lst, cells_ptr, aok_ptr, cells_arr, aok_arr, cells_fn, aok_fn, cells_mref, aok_mref, cells_nilp, aok_nilp, cells_agg, shOk_n, shOk_s, lenA_lst, List.length_cons, List.length_nil, if_true, putAt, List.take_succ_cons, List.take_zero, List.drop_succ_cons, List.drop_zero, List.cons_append, List.nil_append, List.append_nil, Nat.zero_add, Nat.reduceAdd, Nat.reduceLeDiff, Nat.le_refl, List.drop_nil, List.take_nil, List.length_append, List.length_set]; first | done | rfl) | rfl)); try dsimp only)
          rw [ifA_dec, if_neg (by simp)]
          repeat ((with_reducible (first | apply bs | apply bsy)); (focus (first | (simp (disch := (first | assumption | omega | (simp only [List.length_append, List.length_set, List.length_cons, List.length_nil]; first | done | omega))) only [List.all_cons, List.all_nil, Bool.and_true, Bool.and_self, beq_self_eq_true, resv1, List.length_map, ld_v3, ld_v1, binA_eql, binA_neq, binA_lss, binA_leq, binA_gtr, binA_geq, loadA_one, un_not, ld_ptr, st_ptr, putE1, objE_obj, Option.bind_some, cut1, cut3, cut4, nil_ptr, fa_ptr, g_lt, g_eq, g_sne, g_seq, new_n, box_n, List.getElem?_cons_zero, List.getElem?_cons_succ, ex0, ex1, Sh.size, cells_int, aok_int, cells_bool, aok_bool, cells_str, aok_str, cells_lst, aok_lst, cells_ptr, aok_ptr, cells_arr, aok_arr, cells_fn, aok_fn, cells_mref, aok_mref, cells_nilp, aok_nilp, cells_agg, shOk_n, shOk_s, lenA_lst, List.length_cons, List.length_nil, if_true, putAt, List.take_succ_cons, List.take_zero, List.drop_succ_cons, List.drop_zero, List.cons_append, List.nil_append, List.append_nil, Nat.zero_add, Nat.reduceAdd, Nat.reduceLeDiff, Nat.le_refl, List.drop_nil, List.take_nil, List.length_append, List.length_set, e20, ln]; first | done | rfl) | rfl)); try dsimp only)
          rw [ifA_dec, if_neg (by simp), i_add1 (by omega), Option.bind_some]
          exact nxt
    · rw [if_neg hk]
      have hmin : maxA false (.int .i64 kids.length) (.int .i64 70) = some (.int .i64 (min kids.length 70 : Nat)) := by
        simp only [maxA, if_true, Bool.false_eq_true, if_false]
        congr 2
        split <;> omega
      have hsl := slice_IA kz .no kids .i64 (min kids.length 70) (by omega)
      have hkz : kz = true → kids.take (min kids.length 70) = [] := fun h => by rw [hzi h]; rfl
      have hkl : (kids.take (min kids.length 70)).length ≤ 70 := by rw [List.length_take]; omega
      generalize kids.take (min kids.length 70) = ks at hsl hkz hkl
      obtain ⟨m2, F2, e17, k1, k2, k3⟩ := A17 (kz := kz) (ko := .no) (ks := ks) h4.st a hkz har2 har1 (by omega) (by omega) (by omega)
      have g2 : m2.get m.length = some (Ent.obj true [.int .i64 kind, .int .i64 a, IA kz .no kids]) := (k2.get _ (by omega) notF).trans g4
      obtain ⟨x1, hx0, hx1, hx2⟩ := nr_fz h.nr
      have e18 := fun m => pc18 z kz o .no ar l x x1 hx0 hx1 hx2 a ks h.st.ok ⟨by omega, by omega⟩ none m
      repeat ((with_reducible (first | apply bs | apply bsy)); (focus (first | (simp (disch := (first | assumption | omega | (simp only [List.length_append, List.length_set, List.length_cons, List.length_nil]; first | done | omega))) only [List.all_cons, List.all_nil, Bool.and_true, Bool.and_self, beq_self_eq_true, resv1, List.length_map, ld_v3, ld_v1, binA_eql, binA_neq, binA_lss, binA_leq, binA_gtr, binA_geq, loadA_one, un_not, ld_ptr, st_ptr, putE1, objE_obj, Option.bind_some, cut1, cut3, cut4, nil_ptr, fa_ptr, g_lt, g_eq, g_sne, g_seq, new_n, box_n, List.getElem?_cons_zero, List.getElem?_cons_succ, ex0, ex1, Sh.size, cells_int, aok_int, cells_bool, aok_bool, cells_str, aok_str, cells_lst, aok_lst, cells_ptr, aok_ptr, cells_arr, aok_arr, cells_fn, aok_fn, cells_mref, aok_mref, cells_nilp, aok_nilp, cells_agg, shOk_n, shOk_s, lenA_lst, List.length_cons, List.length_nil, if_true, putAt, List.take_succ_cons, List.take_zero, List.drop_succ_cons, List.drop_zero, List.cons_append, List.nil_append, List.append_nil, Nat.zero_add, Nat.reduceAdd, Nat.reduceLeDiff, Nat.le_refl, List.drop_nil, List.take_nil, List.length_append, List.length_set, g4, hmin, hsl, e17, g2, e18]; first | done | rfl) | rfl)); try dsimp only)
      rw [makeR_eq] at k1 ⊢
      by_cases hm : mayB ar l a ks = true
      · rw [if_pos hm] at k1 ⊢
        dsimp only at k1 ⊢
        have hm' := hm
        unfold mayB at hm
        simp only [Bool.and_eq_true, decide_eq_true_eq] at hm
        obtain ⟨⟨ha0, ha1, hal⟩, hall⟩ := hm
        obtain ⟨t, rfl⟩ := Int.eq_ofNat_of_zero_le ha0
        have ht : t < ar.length := by omega
        have hai : ar.getD ((t : Int).toNat) 0 = ar[t] := by rw [Int.toNat_natCast, List.getD_eq_getElem?_getD, List.getElem?_eq_getElem ht, Option.getD_some]
        have hab := har2 ar[t] (List.getElem_mem ht)
        rw [hai] at hal
        have hne : ks ≠ [] := fun e => by rw [e] at hal; simp at hal; omega
        have hkf : kz = false := by cases kz with
          | false => rfl
          | true => exact absurd (hkz rfl) hne
        have e19 := fun m => pc19 kz .no ks hne (by omega) m
        rw [hm', ifA_t]
        repeat ((with_reducible (first | apply bs | apply bsy)); (focus (first | (simp (disch := (first | assumption | omega | (simp only [List.length_append, List.length_set, List.length_cons, List.length_nil]; first | done | omega))) only [List.all_cons, List.all_nil, Bool.and_true, Bool.and_self, beq_self_eq_true, resv1, List.length_map, ld_v3, ld_v1, binA_eql, binA_neq, binA_lss, binA_leq, binA_gtr, binA_geq, loadA_one, un_not, ld_ptr, st_ptr, putE1, objE_obj, Option.bind_some, cut1, cut3, cut4, nil_ptr, fa_ptr, g_lt, g_eq, g_sne, g_seq, new_n, box_n, List.getElem?_cons_zero, List.getElem?_cons_succ, ex0, ex1, Sh.size, cells_int, aok_int, cells_bool, aok_bool, cells_str, aok_str, cells_lst, aok_lst, cells_ptr, aok_ptr, cells_arr, aok_arr, cells_fn, aok_fn, cells_mref, aok_mref, cells_nilp, aok_nilp, cells_agg, shOk_n, shOk_s, lenA_lst, List.length_cons, List.length_nil, if_true, putAt, List.take_succ_cons, List.take_zero, List.drop_succ_cons, List.drop_zero, List.cons_append, List.nil_append, List.append_nil, Nat.zero_add, Nat.reduceAdd, Nat.reduceLeDiff, Nat.le_refl, List.drop_nil, List.take_nil, List.length_append, List.length_set, e19]; first | done | rfl) | rfl)); try dsimp only)
        obtain ⟨k0, kt, rfl⟩ := List.exists_cons_of_ne_nil hne
        rw [List.headD_cons]
        rw [nodeR_cons] at k1 ⊢
        have i0 := idx_IA0 (z := kz) (o := .no) (k := .i64) (ns := k0 :: kt) (by simp)
        by_cases hq : ((k0 :: kt).all fun k => k == k0) = true
        · rw [if_pos hq] at k1 ⊢
          dsimp only at k1 ⊢
          obtain ⟨n1, n2⟩ := nr_after h4 k2 k3
          have e20 := A20 k1 (by omega)
          have ln := nr_len n1
          rw [hq, ifA_t]
          repeat ((with_reducible (first | apply bs | apply bsy)); (focus (first | (simp (disch := (first | assumption | omega | (simp only [List.length_append, List.length_set, List.length_cons, List.length_nil]; first | done | omega))) only [List.all_cons, List.all_nil, Bool.and_true, Bool.and_self, beq_self_eq_true, resv1, List.length_map, ld_v3, ld_v1, binA_eql, binA_neq, binA_lss, binA_leq, binA_gtr, binA_geq, loadA_one, un_not, ld_ptr, st_ptr, putE1, objE_obj, Option.bind_some, cut1, cut3, cut4, nil_ptr, fa_ptr, g_lt, g_eq, g_sne, g_seq, new_n, box_n, List.getElem?_cons_zero, List.getElem?_cons_succ, ex0, ex1, Sh.size, cells_int, aok_int, cells_bool, aok_bool, cells_str, aok_str, cells_lst, aok_lst, cells_ptr, aok_ptr, cells_arr, aok_arr, cells_fn, aok_fn, cells_mref, aok_mref, cells_nilp, aok_nilp, cells_agg, shOk_n, shOk_s, lenA_lst, List.length_cons, List.length_nil, if_true, putAt, List.take_succ_cons, List.take_zero, List.drop_succ_cons, List.drop_zero, List.cons_append, List.nil_append, List.append_nil, Nat.zero_add, Nat.reduceAdd, Nat.reduceLeDiff, Nat.le_refl, List.drop_nil, List.take_nil, List.length_append, List.length_set, i0]; first | done | rfl) | rfl)); try dsimp only)
          rw [ifA_dec, if_neg (by simp)]
          repeat ((with_reducible (first | apply bs | apply bsy)); (focus (first | (simp (disch := (first | assumption | omega | (simp only [List.length_append, List.length_set, List.length_cons, List.length_nil]; first | done | omega))) only [List.all_cons, List.all_nil, Bool.and_true, Bool.and_self, beq_self_eq_true, resv1, List.length_map, ld_v3, ld_v1, binA_eql, binA_neq, binA_lss, binA_leq, binA_gtr, binA_geq, loadA_one, un_not, ld_ptr, st_ptr, putE1, objE_obj, Option.bind_some, cut1, cut3, cut4, nil_ptr, fa_ptr, g_lt, g_eq, g_sne, g_seq, new_n, box_n, List.getElem?_cons_zero, List.getElem?_cons_succ, ex0, ex1, Sh.size, cells_int, aok_int, cells_bool, aok_bool, cells_str, aok_str, cells_lst, aok_lst, cells_ptr, aok_ptr, cells_arr, aok_arr, cells_fn, aok_fn, cells_mref, aok_mref, cells_nilp, aok_nilp, cells_agg, shOk_n, shOk_s, lenA_lst, List.length_cons, List.length_nil, if_true, putAt, List.take_succ_cons, List.take_zero, List.drop_succ_cons, List.drop_zero, List.cons_append, List.nil_append, List.append_nil, Nat.zero_add, Nat.reduceAdd, Nat.reduceLeDiff, Nat.le_refl, List.drop_nil, List.take_nil, List.length_append, List.length_set]; first | done | rfl) | rfl)); try dsimp only)
          rw [ifA_dec, if_neg (by simp)]
          repeat ((with_reducible (first | apply bs | apply bsy)); (focus (first | (simp (disch := (first | assumption | omega | (simp only [List.length_append, List.length_set, List.length_cons, List.length_nil]; first | done | omega))) only [List.all_cons, List.all_nil, Bool.and_true, Bool.and_self, beq_self_eq_true, resv1, List.length_map, ld_v3, ld_v1, binA_eql, binA_neq, binA_lss, binA_leq, binA_gtr, binA_geq, loadA_one, un_not, ld_ptr, st_ptr, putE1, objE_obj, Option.bind_some, cut1, cut3, cut4, nil_ptr, fa_ptr, g_lt, g_eq, g_sne, g_seq, new_n, box_n, List.getElem?_cons_zero, List.getElem?_cons_succ, ex0, ex1, Sh.size, cells_int, aok_int, cells_bool, aok_bool, cells_str, aok_str, cells_lst, aok_lst, cells_ptr, aok_ptr, cells_arr, aok_arr, cells_fn, aok_fn, cells_mref, aok_mref, cells_nilp, aok_nilp, cells_agg, shOk_n, shOk_s, lenA_lst, List.length_cons, List.length_nil, if_true, putAt, List.take_succ_cons, List.take_zero, List.drop_succ_cons, List.drop_zero, List.cons_append, List.nil_append, List.append_nil, Nat.zero_add, Nat.reduceAdd, Nat.reduceLeDiff, Nat.le_refl, List.drop_nil, List.take_nil, List.length_append, List.length_set, e20, ln]; first | done | rfl) | rfl)); try dsimp only)
          rw [ifA_dec, if_neg (by simp), i_add1 (by omega), Option.bind_some]
          exact ih (i + 1) m2 F2 l x T (by omega) ⟨k1, n1, n2, h.kn⟩ (by omega)
        · rw [if_neg hq] at k1 ⊢
          dsimp only at k1 ⊢
          have hq' : ((k0 :: kt).all fun k => k == k0) = false := by simpa using hq
          rw [hq', ifA_f]
          obtain ⟨o', m3, ea, f3, ho⟩ := app_ints m2 kz .no (k0 :: kt) (by omega)
          have ho : o' = .tok m2.length 3 := ho.resolve_left (fun h => by cases h.2)
          have g3 : m3.get m.length = some (Ent.obj true [.int .i64 kind, .int .i64 t, IA kz .no kids]) := (f3.get _ (get_lt g2) (by simp)).trans g2
          have hn : (nodeN t (k0 :: kt)).ok := by
            refine .inr ⟨by simp only [nodeN]; omega, by simp only [nodeN]; omega, rfl, fun k hk' => ?_, by simp only [nodeN]; omega⟩
            have := List.all_eq_true.1 hall k hk'
            unfold kidOk at this
            simp only [Bool.and_eq_true, decide_eq_true_eq] at this
            omega
          have hv : ¬ (nodeN t (k0 :: kt)).var < 0 := by simp only [nodeN]; omega
          have hstr : stripA (.lst none false o' (((nodeN t (k0 :: kt)).kids).map (AV.int .i64))) = kidsA (nodeN t (k0 :: kt)) := by
            unfold kidsA
            rw [if_neg hv, ho]; rfl
          obtain ⟨m5, x5, T5, e16, k4, k5⟩ := both_put h4 hn (fun _ => by simp [nodeN]) hstr (by omega) (k1.app f3) (Fr.trans k2 f3 fun _ h => by cases h) k3
          have e16 : AC cfg 16 [x, .agg [.int .i64 t, IA false o' (k0 :: kt), .int .i64 0]] m3 = _ := e16
          have e20 := A20 k4.st (by omega)
          have hb : buildA (.agg [(.int .i64 0), (.lst none true .full []), (.int .i64 0)]) [(0, none, .int .i64 t), (1, none, IA false o' (k0 :: kt))] = some (.agg [.int .i64 t, IA false o' (k0 :: kt), .int .i64 0]) := rfl
          have hbs0 : buildSliceA none [] = some (.lst none false .full []) := rfl
          repeat ((with_reducible (first | apply bs | apply bsy)); (focus (first | (simp (disch := (first | assumption | omega | (simp only [List.length_append, List.length_set, List.length_cons, List.length_nil]; first | done | omega))) only [List.all_cons, List.all_nil, Bool.and_true, Bool.and_self, beq_self_eq_true, resv1, List.length_map, ld_v3, ld_v1, binA_eql, binA_neq, binA_lss, binA_leq, binA_gtr, binA_geq, loadA_one, un_not, ld_ptr, st_ptr, putE1, objE_obj, Option.bind_some, cut1, cut3, cut4, nil_ptr, fa_ptr, g_lt, g_eq, g_sne, g_seq, new_n, box_n, List.getElem?_cons_zero, List.getElem?_cons_succ, ex0, ex1, Sh.size, cells_int, aok_int, cells_bool, aok_bool, cells_str, aok_str, cells_lst, aok_lst, cells_ptr, aok_ptr, cells_arr, aok_arr, cells_fn, aok_fn, cells_mref, aok_mref, cells_nilp, aok_nilp, cells_agg, shOk_n, shOk_s, lenA_lst, List.length_cons, List.length_nil, if_true, putAt, List.take_succ_cons, List.take_zero, List.drop_succ_cons, List.drop_zero, List.cons_append, List.nil_append, List.append_nil, Nat.zero_add, Nat.reduceAdd, Nat.reduceLeDiff, Nat.le_refl, List.drop_nil, List.take_nil, List.length_append, List.length_set, g2, hbs0, ea]; first | done | rfl) | rfl)); try dsimp only)
          rw [ifP_pos (by simp only [new_n, ld_ptr, g3, objE_obj, Option.bind_some]; rfl)]
          repeat ((with_reducible (first | apply bs | apply bsy)); (focus (first | (simp (disch := (first | assumption | omega | (simp only [List.length_append, List.length_set, List.length_cons, List.length_nil]; first | done | omega))) only [List.all_cons, List.all_nil, Bool.and_true, Bool.and_self, beq_self_eq_true, resv1, List.length_map, ld_v3, ld_v1, binA_eql, binA_neq, binA_lss, binA_leq, binA_gtr, binA_geq, loadA_one, un_not, ld_ptr, st_ptr, putE1, objE_obj, Option.bind_some, cut1, cut3, cut4, nil_ptr, fa_ptr, g_lt, g_eq, g_sne, g_seq, new_n, box_n, List.getElem?_cons_zero, List.getElem?_cons_succ, ex0, ex1, Sh.size, cells_int, aok_int, cells_bool, aok_bool, cells_str, aok_str, cells_lst, aok_lst, cells_ptr, aok_ptr, cells_arr, aok_arr, cells_fn, aok_fn, cells_mref, aok_mref, cells_nilp, aok_nilp, cells_agg, shOk_n, shOk_s, lenA_lst, List.length_cons, List.length_nil, if_true, putAt, List.take_succ_cons, List.take_zero, List.drop_succ_cons, List.drop_zero, List.cons_append, List.nil_append, List.append_nil, Nat.zero_add, Nat.reduceAdd, Nat.reduceLeDiff, Nat.le_refl, List.drop_nil, List.take_nil, List.length_append, List.length_set, hb, e16]; first | done | rfl) | rfl)); try dsimp only)
          rw [ifA_dec, if_neg (by simp)]
          repeat ((with_reducible (first | apply bs | apply bsy)); (focus (first | (simp (disch := (first | assumption | omega | (simp only [List.length_append, List.length_set, List.length_cons, List.length_nil]; first | done | omega))) only [List.all_cons, List.all_nil, Bool.and_true, Bool.and_self, beq_self_eq_true, resv1, List.length_map, ld_v3, ld_v1, binA_eql, binA_neq, binA_lss, binA_leq, binA_gtr, binA_geq, loadA_one, un_not, ld_ptr, st_ptr, putE1, objE_obj, Option.bind_some, cut1, cut3, cut4, nil_ptr, fa_ptr, g_lt, g_eq, g_sne, g_seq, new_n, box_n, List.getElem?_cons_zero, List.getElem?_cons_succ, ex0, ex1, Sh.size, cells_int, aok_int, cells_bool, aok_bool, cells_str, aok_str, cells_lst, aok_lst, cells_ptr, aok_ptr, cells_arr, aok_arr, cells_fn, aok_fn, cells_mref, aok_mref, cells_nilp, aok_nilp, cells_agg, shOk_n, shOk_s, lenA_lst, List.length_cons, List.length_nil, if_true, putAt, List.take_succ_cons, List.take_zero, List.drop_succ_cons, List.drop_zero, List.cons_append, List.nil_append, List.append_nil, Nat.zero_add, Nat.reduceAdd, Nat.reduceLeDiff, Nat.le_refl, List.drop_nil, List.take_nil, List.length_append, List.length_set]; first | done | rfl) | rfl)); try dsimp only)
          rw [ifA_dec, if_neg (by simp)]
          repeat ((with_reducible (first | apply bs | apply bsy)); (focus (first | (simp (disch := (first | assumption | omega | (simp only [List.length_append, List.length_set, List.length_cons, List.length_nil]; first | done | omega))) only [List.all_cons, List.all_nil, Bool.and_true, Bool.and_self, beq_self_eq_true, resv1, List.length_map, ld_v3, ld_v1, binA_eql, binA_neq, binA_lss, binA_leq, binA_gtr, binA_geq, loadA_one, un_not, ld_ptr, st_ptr, putE1, objE_obj, Option.bind_some, cut1, cut3, cut4, nil_ptr, fa_ptr, g_lt, g_eq, g_sne, g_seq, new_n, box_n, List.getElem?_cons_zero, List.getElem?_cons_succ, ex0, ex1, Sh.size, cells_int, aok_int, cells_bool, aok_bool, cells_str, aok_str, cells_lst, aok_lst, cells_ptr, aok_ptr, cells_arr, aok_arr, cells_fn, aok_fn, cells_mref, aok_mref, cells_nilp, aok_nilp, cells_agg, shOk_n, shOk_s, lenA_lst, List.length_cons, List.length_nil, if_true, putAt, List.take_succ_cons, List.take_zero, List.drop_succ_cons, List.drop_zero, List.cons_append, List.nil_append, List.append_nil, Nat.zero_add, Nat.reduceAdd, Nat.reduceLeDiff, Nat.le_refl, List.drop_nil, List.take_nil, List.length_append, List.length_set, e20, nr_len k4.nr]; first | done | rfl) | rfl)); try dsimp only)
          rw [ifA_dec, if_neg (by simp), i_add1 (by omega), Option.bind_some]
          exact ih (i + 1) m5 F2 _ x5 T5 (by omega) k4 (by have := ins_len l (nodeN t (k0 :: kt)); omega)
      · rw [if_neg hm] at k1 ⊢
        dsimp only at k1 ⊢
        have hm' : mayB ar l a ks = false := by simpa using hm
        obtain ⟨n1, n2⟩ := nr_after h4 k2 k3
        have e20 := A20 k1 (by omega)
        have ln := nr_len n1
        rw [hm', ifA_f]
        repeat ((with_reducible (first | apply bs | apply bsy)); (focus (first | (simp (disch := (first | assumption | omega | (simp only [List.length_append, List.length_set, List.length_cons, List.length_nil]; first | done | omega))) only [List.all_cons, List.all_nil, Bool.and_true, Bool.and_self, beq_self_eq_true, resv1, List.length_map, ld_v3, ld_v1, binA_eql, binA_neq, binA_lss, binA_leq, binA_gtr, binA_geq, loadA_one, un_not, ld_ptr, st_ptr, putE1, objE_obj, Option.bind_some, cut1, cut3, cut4, nil_ptr, fa_ptr, g_lt, g_eq, g_sne, g_seq, new_n, box_n, List.getElem?_cons_zero, List.getElem?_cons_succ, ex0, ex1, Sh.size, cells_int, aok_int, cells_bool, aok_bool, cells_str, aok_str, cells_lst, aok_lst, cells_ptr, aok_ptr, cells_arr, aok_arr, cells_fn, aok_fn, cells_mref, aok_mref, cells_nilp, aok_nilp, cells_agg, shOk_n, shOk_s, lenA_lst, List.length_cons, List.length_nil, if_true, putAt, List.take_succ_cons, List.take_zero, List.drop_succ_cons, List.drop_zero, List.cons_append, List.nil_append, List.append_nil, Nat.zero_add, Nat.reduceAdd, Nat.reduceLeDiff, Nat.le_refl, List.drop_nil, List.take_nil, List.length_append, List.length_set]; first | done | rfl) | rfl)); try dsimp only)
        rw [ifA_dec, if_neg (by simp)]
        repeat ((with_reducible (first | apply bs | apply bsy)); (focus (first | (simp (disch := (first | assumption | omega | (simp only [List.length_append, List.length_set, List.length_cons, List.length_nil]; first | done | omega))) only [List.all_cons, List.all_nil, Bool.and_true, Bool.and_self, beq_self_eq_true, resv1, List.length_map, ld_v3, ld_v1, binA_eql, binA_neq, binA_lss, binA_leq, binA_gtr, binA_geq, loadA_one, un_not, ld_ptr, st_ptr, putE1, objE_obj, Option.bind_some, cut1, cut3, cut4, nil_ptr, fa_ptr, g_lt, g_eq, g_sne, g_seq, new_n, box_n, List.getElem?_cons_zero, List.getElem?_cons_succ, ex0, ex1, Sh.size, cells_int, aok_int, cells_bool, aok_bool, cells_str, aok_str, cells_lst, aok_lst, cells_ptr, aok_ptr, cells_arr, aok_arr, cells_fn, aok_fn, cells_mref, aok_mref, cells_nilp, aok_nilp, cells_agg, shOk_n, shOk_s, lenA_lst, List.length_cons, List.length_nil, if_true, putAt, List.take_succ_cons, List.take_zero, List.drop_succ_cons, List.drop_zero, List.cons_append, List.nil_append, List.append_nil, Nat.zero_add, Nat.reduceAdd, Nat.reduceLeDiff, Nat.le_refl, List.drop_nil, List.take_nil, List.length_append, List.length_set]; first | done | rfl) | rfl)); try dsimp only)
        rw [ifA_dec, if_neg (by simp)]
        repeat ((with_reducible (first | apply bs | apply bsy)); (focus (first | (simp (disch := (first | assumption | omega | (simp only [List.length_append, List.length_set, List.length_cons, List.length_nil]; first | done | omega))) only [List.all_cons, List.all_nil, Bool.and_true, Bool.and_self, beq_self_eq_true, resv1, List.length_map, ld_v3, ld_v1, binA_eql, binA_neq, binA_lss, binA_leq, binA_gtr, binA_geq, loadA_one, un_not, ld_ptr, st_ptr, putE1, objE_obj, Option.bind_some, cut1, cut3, cut4, nil_ptr, fa_ptr, g_lt, g_eq, g_sne, g_seq, new_n, box_n, List.getElem?_cons_zero, List.getElem?_cons_succ, ex0, ex1, Sh.size, cells_int, aok_int, cells_bool, aok_bool, cells_str, aok_str, cells_lst, aok_lst, cells_ptr, aok_ptr, cells_arr, aok_arr, cells_fn, aok_fn, cells_mref, aok_mref, cells_nilp, aok_nilp, cells_agg, shOk_n, shOk_s, lenA_lst, List.length_cons, List.length_nil, if_true, putAt, List.take_succ_cons, List.take_zero, List.drop_succ_cons, List.drop_zero, List.cons_append, List.nil_append, List.append_nil, Nat.zero_add, Nat.reduceAdd, Nat.reduceLeDiff, Nat.le_refl, List.drop_nil, List.take_nil, List.length_append, List.length_set, e20, ln]; first | done | rfl) | rfl)); try dsimp only)
        rw [ifA_dec, if_neg (by simp), i_add1 (by omega), Option.bind_some]
        exact ih (i + 1) m2 F2 l x T (by omega) ⟨k1, n1, n2, h.kn⟩ (by omega)
end Go.Ab

/- The deferred closures of the diagram seat: where nothing has panicked they do nothing. -/
set_option linter.unusedVariables false
set_option linter.unusedSimpArgs false
set_option linter.unusedSectionVars false
namespace Go.Ab
open Go.Proofs Go.RowKit

theorem idle72 (caps : Array Value) (w : World) : CallsD Tryd.prog 72 caps .returning w fun e u w' => (∃ v, e = .returned v) ∧ u = .returning ∧ w' = w := by
  refine callsD_of_wpS Tryd.func72 rfl fun c₀ cs hu => ?_
  have hs : 45 ≤ (caps ++ Array.replicate (Tryd.f72.ntmps - caps.size) undef).size := by
    rw [Tryd.ntmps72, Array.size_append, Array.size_replicate]; omega
  generalize caps ++ Array.replicate (Tryd.f72.ntmps - caps.size) undef = T at hs
  apply wpS_seq
  apply wpS_region
  simp [wpOpsS, go_sem, recoverD, hu, Exit.thenS, Act.put, Act.eval, show 9 < T.size by omega, show 4 < T.size by omega]
  apply wpS_seq
  apply wpS_seq
  apply wpS_region
  simp [wpOpsS, go_sem, recoverD, hu, Exit.thenS, Act.put, Act.eval, show 9 < T.size by omega, show 4 < T.size by omega, show 10 < T.size by omega, show 11 < T.size by omega]
  refine wpS_cond (t := true) (by simp [Act.eval, show 11 < T.size by omega]) ?_
  simp only [if_true]
  refine wpS_of_wp (wp_ret ?_)
  cases c₀
  simp_all [bodyPostS, results, Tryd.results72, Exit.thenS]
theorem idle84 (caps : Array Value) (w : World) : CallsD Tryd.prog 84 caps .returning w fun e u w' => (∃ v, e = .returned v) ∧ u = .returning ∧ w' = w := by
  refine callsD_of_wpS Tryd.func84 rfl fun c₀ cs hu => ?_
  have hs : 3 ≤ (caps ++ Array.replicate (Tryd.f84.ntmps - caps.size) undef).size := by
    rw [Tryd.ntmps84, Array.size_append, Array.size_replicate]; omega
  generalize caps ++ Array.replicate (Tryd.f84.ntmps - caps.size) undef = T at hs
  apply wpS_seq
  apply wpS_region
  simp [wpOpsS, go_sem, recoverD, hu, Exit.thenS, Act.put, Act.eval, show 1 < T.size by omega, show 2 < T.size by omega]
  refine wpS_cond (t := false) (by simp [Act.eval, show 2 < T.size by omega]) ?_
  simp only [Bool.false_eq_true, if_false]
  refine wpS_of_wp (wp_skip ?_)
  cases c₀
  simp_all [bodyPostS, results, Tryd.results84]
theorem benD_of {g : Nat} {fn : Func} (hfn : Tryd.prog.funcs[g]? = some fn) (hname : (fn.name == "runtime.NumGoroutine") = false) (hbody : fn.body.isSome) (caps : Array Value)
    (h : ∀ w, CallsD Tryd.prog g caps .returning w fun e u w' => (∃ v, e = .returned v) ∧ u = .returning ∧ w' = w) : BenD Tryd.prog { target := .fn (.func g) caps, args := #[] } := by
  refine ⟨.func g, caps, g, caps, rfl, fun w => ⟨?_, h w⟩⟩
  have hb : fn.body.isNone = false := by cases hb : fn.body <;> simp_all
  simp only [invoke, callFunc, hfn, hname, hb, Sem.run_bind, Sem.run_pure, run_program, Result.andThen_ok, Bool.false_eq_true, if_false, Array.empty_append]
theorem ben72 (caps : Array Value) : BenD Tryd.prog { target := .fn (.func 72) caps, args := #[] } := benD_of Tryd.func72 (by kernel_rfl) (by kernel_rfl) caps (idle72 caps)
theorem ben84 (caps : Array Value) : BenD Tryd.prog { target := .fn (.func 84) caps, args := #[] } := benD_of Tryd.func84 (by kernel_rfl) (by kernel_rfl) caps (idle84 caps)
end Go.Ab

/- Data that can be read, as values of the interpreter: any type of whole numbers, truth values, texts, rows of these, and flat structs. -/
set_option linter.unusedVariables false
set_option linter.unusedSimpArgs false
set_option maxRecDepth 100000
set_option linter.unusedSectionVars false
namespace Go.Ab
open Go.RowKit

def gN : G := ⟨fun _ _ => False, fun _ => False, fun _ => none, fun _ _ => none⟩
def atomT (P : Program) (t : Nat) : Bool := match P.underlying t with
  | some (.int _) | some .bool | some .string | some (.slice _) => true
  | _ => false
def shE (P : Program) (t : Nat) : Sh := match P.underlying t with
  | some (.struct fs) => some fs.size
  | _ => none
/-- What stands in a variable of a type, by depth. -/
def Reads (P : Program) : Nat → Nat → AV → Prop
  | 0, _, _ => False
  | n + 1, t, v => match P.underlying t with
    | some (.int k) => ∃ i, v = .int k i ∧ (Lit.int k i).wf = true
    | some .bool => ∃ b, v = .bool b
    | some .string => ∃ s, v = .str s ∧ s.size ≤ maxLen
    | some (.slice e) => ∃ z es, v = .lst (shE P e) z .no es ∧ (z = true → es = []) ∧ ∀ x ∈ es, Reads P n e x
    | some (.struct fs) => ∃ cs, v = .agg cs ∧ cs.length = fs.size ∧ ∀ i f, fs[i]? = some f → Reads P n f.type (cs.getD i .any)
    | _ => False
def fieldsOk (P : Program) (ok : Nat → Bool) : Nat → List Field → Bool
  | _, [] => true
  | i, f :: l => f.offset == i && P.cellsOf f.type == 1 && atomT P f.type && ok f.type && fieldsOk P ok (i + 1) l
def tyOk (P : Program) : Nat → Nat → Bool
  | 0, _ => false
  | n + 1, t => match P.underlying t with
    | some (.int _) | some .bool | some .string => P.cellsOf t == 1
    | some (.slice e) => P.cellsOf t == 1 && tyOk P n e
    | some (.struct fs) => P.cellsOf t == fs.size && decide (0 < fs.size) && fieldsOk P (tyOk P n) 0 fs.toList
    | _ => false
theorem fieldsOk_get {P : Program} {ok : Nat → Bool} : ∀ {l : List Field} {i0 : Nat}, fieldsOk P ok i0 l = true → ∀ i f, l[i]? = some f → f.offset = i0 + i ∧ P.cellsOf f.type = 1 ∧ atomT P f.type = true ∧ ok f.type = true
  | [], i0, h, i, f, hf => by simp at hf
  | g :: l, i0, h, i, f, hf => by
    simp only [fieldsOk, Bool.and_eq_true, beq_iff_eq] at h
    obtain ⟨⟨⟨⟨h1, h2⟩, h3⟩, h4⟩, h5⟩ := h
    cases i with
    | zero =>
      simp at hf; subst hf
      exact ⟨h1, h2, h3, h4⟩
    | succ i =>
      simp at hf
      obtain ⟨a, b⟩ := fieldsOk_get h5 i f hf
      exact ⟨by omega, b⟩
theorem flatS {s : Nat} (hs : 0 < s) : ∀ {es : List AV}, (∀ e ∈ es, e.cells.length = s) → (flat es).length = es.length * s ∧ ∀ j, j < es.length * s → (flat es).getD j .any = (es.getD (j / s) .any).cells.getD (j % s) .any
  | [], h => ⟨by simp [flat], fun j hj => by simp at hj⟩
  | e :: es, h => by
    have h0 := h e List.mem_cons_self
    obtain ⟨h1, h2⟩ := flatS hs (fun x hx => h x (List.mem_cons_of_mem _ hx))
    have e1 : flat (e :: es) = e.cells ++ flat es := rfl
    have e2 : (e :: es).length * s = es.length * s + s := by rw [List.length_cons, Nat.add_mul, Nat.one_mul]
    refine ⟨by rw [e1, List.length_append, h0, h1, e2]; omega, fun j hj => ?_⟩
    rw [e1, List.getD_eq_getElem?_getD]
    by_cases hj2 : j < s
    · rw [List.getElem?_append_left (by omega), Nat.div_eq_of_lt hj2, Nat.mod_eq_of_lt hj2]
      show _ = e.cells.getD j .any
      rw [List.getD_eq_getElem?_getD]
    · rw [List.getElem?_append_right (by omega), h0, ← List.getD_eq_getElem?_getD, h2 (j - s) (by omega)]
      have e3 : j / s = (j - s) / s + 1 := by
        have := Nat.div_eq_sub_div hs (by omega : s ≤ j)
        omega
      have e4 : j % s = (j - s) % s := Nat.mod_eq_sub_mod (by omega)
      rw [e3, e4, List.getD_cons_succ]
theorem reads_ok {P : Program} : ∀ (n t : Nat) (v : AV), tyOk P n t = true → Reads P n t v → shOk (shE P t) v = true ∧ pl v = true ∧ v.cells.length = P.cellsOf t ∧ 0 < P.cellsOf t ∧ (shE P t).size = P.cellsOf t ∧ (atomT P t = true → atomOk v = true)
  | 0, t, v, ht, _ => by simp [tyOk] at ht
  | n + 1, t, v, ht, h => by
    unfold Reads at h
    unfold tyOk at ht
    unfold shE atomT
    cases hu : P.underlying t with
    | none => rw [hu] at h; exact h.elim
    | some ty =>
      rw [hu] at h ht
      cases ty with
      | int k =>
        obtain ⟨i, rfl, _⟩ := h
        have hc : P.cellsOf t = 1 := by simpa using ht
        exact ⟨rfl, rfl, hc.symm, by omega, hc.symm, fun _ => rfl⟩
      | bool =>
        obtain ⟨i, rfl⟩ := h
        have hc : P.cellsOf t = 1 := by simpa using ht
        exact ⟨rfl, rfl, hc.symm, by omega, hc.symm, fun _ => rfl⟩
      | string =>
        obtain ⟨i, rfl, _⟩ := h
        have hc : P.cellsOf t = 1 := by simpa using ht
        exact ⟨rfl, rfl, hc.symm, by omega, hc.symm, fun _ => rfl⟩
      | slice e =>
        obtain ⟨z, es, rfl, _⟩ := h
        have hc : P.cellsOf t = 1 := by
          simp only [Bool.and_eq_true, beq_iff_eq] at ht
          exact ht.1
        exact ⟨rfl, rfl, hc.symm, by omega, hc.symm, fun _ => rfl⟩
      | struct fs =>
        obtain ⟨cs, rfl, hl, hf⟩ := h
        simp only [Bool.and_eq_true, beq_iff_eq, decide_eq_true_eq] at ht
        obtain ⟨⟨h1, h2⟩, h3⟩ := ht
        have hall : ∀ c ∈ cs, atomOk c = true ∧ pl c = true := by
          intro c hc
          obtain ⟨i, hi, rfl⟩ := List.mem_iff_getElem.1 hc
          have hfi : fs[i]? = some (fs[i]'(by omega)) := Array.getElem?_eq_getElem (by omega)
          obtain ⟨_, b, c2, d⟩ := fieldsOk_get h3 i _ (by rw [Array.getElem?_toList]; exact hfi)
          have r := hf i _ hfi
          rw [List.getD_eq_getElem?_getD, List.getElem?_eq_getElem hi] at r
          have := reads_ok n _ _ d r
          exact ⟨this.2.2.2.2.2 c2, this.2.1⟩
        have hpl : ∀ l : List AV, (∀ c ∈ l, pl c = true) → plL l = true := by
          intro l
          induction l with
          | nil => intro _; rfl
          | cons a l ih =>
            intro h
            show (pl a && plL l) = true
            rw [h a List.mem_cons_self, ih (fun c hc => h c (List.mem_cons_of_mem _ hc))]; rfl
        refine ⟨?_, hpl cs (fun c hc => (hall c hc).2), by show cs.length = _; omega, by omega, h1.symm, fun h => by cases h⟩
        show (cs.length == fs.size && cs.all atomOk) = true
        rw [Bool.and_eq_true]
        exact ⟨by simp [hl], List.all_eq_true.2 fun c hc => (hall c hc).1⟩
      | _ => exact h.elim
section
variable {P : Program} {H : Type} {enc : TypeId × Value → H} {W : World}
theorem rd_cells {w : World} {a : Addr} {n : Nat} {cs : List Value} (h : w.cells? 0 a n = some cs) : cs.length = n ∧ ∀ j, j < n → w.cell? (a.add j) = cs[j]? := by
  unfold World.cells? at h
  rw [if_pos (Nat.zero_le _)] at h
  refine ⟨by simpa using mapM_some_length h, fun j hj => mapM_some_get h j j (by simp [hj])⟩
theorem rd_add {a : Addr} (h : a.spot = none) (j : Nat) : a.add j = ⟨a.block, a.off + j, none⟩ := by
  obtain ⟨b, o, s⟩ := a
  subst h
  exact Addr_add b o j
/-- Whatever can be read is a value of the interpreter. -/
theorem reads : ∀ (n t : Nat), tyOk P n t = true → ∀ {fuel : Nat} {cs : List Value} {x : DataW H × List MemPlace}, DataW.trod enc P W 0 (fun _ => true) true fuel t cs = some x → ∃ v : AV, Reads P n t v ∧ cs.length = P.cellsOf t ∧ ∀ j, j < P.cellsOf t → V W gN (v.cells.getD j .any) (cs.getD j undef)
  | 0, t, ht, _, _, _, _ => by simp [tyOk] at ht
  | n + 1, t, ht, fuel, cs, x, h => by
    have ht0 := ht
    unfold tyOk at ht
    unfold Reads
    cases hu : P.underlying t with
    | none => rw [hu] at ht; cases ht
    | some ty =>
      rw [hu] at ht
      cases ty with
      | int k =>
        have hc : P.cellsOf t = 1 := by simpa using ht
        obtain ⟨i, rfl, _, hw⟩ := DataW.trod_int hu h
        refine ⟨.int k i, ⟨i, rfl, hw⟩, hc.symm, fun j hj => ?_⟩
        obtain rfl : j = 0 := by omega
        exact .int _ _
      | bool =>
        have hc : P.cellsOf t = 1 := by simpa using ht
        obtain ⟨i, rfl, _⟩ := DataW.trod_bool hu h
        refine ⟨.bool i, ⟨i, rfl⟩, hc.symm, fun j hj => ?_⟩
        obtain rfl : j = 0 := by omega
        exact .bool _
      | string =>
        have hc : P.cellsOf t = 1 := by simpa using ht
        obtain ⟨i, rfl, _, hw⟩ := DataW.trod_string hu h
        refine ⟨.str i, ⟨i, rfl, hw⟩, hc.symm, fun j hj => ?_⟩
        obtain rfl : j = 0 := by omega
        exact .str _
      | slice e =>
        simp only [Bool.and_eq_true, beq_iff_eq] at ht
        obtain ⟨hc, hte⟩ := ht
        rcases DataW.trod_slice hu h with ⟨rfl, _⟩ | ⟨a, len, cap, elems, rest, m, _, rfl, _, _, hl, hm, he, hel, hre, _⟩
        · refine ⟨.lst (shE P e) true .no [], ⟨true, [], rfl, fun _ => rfl, fun x hx => by cases hx⟩, hc.symm, fun j hj => ?_⟩
          obtain rfl : j = 0 := by omega
          exact .nils _ .no (.inr rfl)
        · obtain ⟨hrl, hre⟩ := hre rfl
          have raw : ∀ i, i < cap → ∃ y, (W.cells? 0 (a.add (i * P.cellsOf e)) (P.cellsOf e)).bind (DataW.trod enc P W 0 (fun _ => true) true m e) = some y := by
            intro i hi
            by_cases hi2 : i < len
            · have h1 := hel i hi2
              rw [List.getElem?_eq_getElem (by omega)] at h1
              exact ⟨_, h1⟩
            · have h1 := hre (i - len) (by omega)
              rw [List.getElem?_eq_getElem (by omega), show len + (i - len) = i by omega] at h1
              exact ⟨_, h1⟩
          have at1 : ∀ i, i < cap → (i = 0 ∨ a.spot = none) → a.spot = none ∧ ∃ v : AV, Reads P n e v ∧ ∀ j, j < P.cellsOf e → ∃ u, W.cell? ⟨a.block, a.off + (i * P.cellsOf e + j), none⟩ = some u ∧ V W gN (v.cells.getD j .any) u := by
            intro i hi hs0
            obtain ⟨y, hy⟩ := raw i hi
            obtain ⟨cs, h1, h2⟩ := Option.bind_eq_some_iff.1 hy
            obtain ⟨v, hv, hlen, hV⟩ := reads n e hte h2
            have hpos := (reads_ok n e v hte hv).2.2.2.1
            have h3 := (rd_cells h1).2
            have hs : a.spot = none := by
              rcases hs0 with rfl | hs0
              · rw [Nat.zero_mul] at h3
                have h4 := h3 0 hpos
                rw [List.getElem?_eq_getElem (by omega)] at h4
                exact World.cell?_spot h4
              · exact hs0
            refine ⟨hs, v, hv, fun j hj => ?_⟩
            have h4 := h3 j hj
            rw [rd_add hs, Addr_add, Nat.add_assoc, List.getElem?_eq_getElem (by omega)] at h4
            refine ⟨_, h4, ?_⟩
            have := hV j hj
            rwa [List.getD_eq_getElem?_getD (l := cs), List.getElem?_eq_getElem (by omega)] at this
          have hsp : cap = 0 ∨ a.spot = none := by
            by_cases h0 : cap = 0
            · exact .inl h0
            · exact .inr (at1 0 (by omega) (.inl rfl)).1
          have cell : ∀ i, ∃ v : AV, i < cap → Reads P n e v ∧ ∀ j, j < P.cellsOf e → ∃ u, W.cell? ⟨a.block, a.off + (i * P.cellsOf e + j), none⟩ = some u ∧ V W gN (v.cells.getD j .any) u := by
            intro i
            by_cases hi : i < cap
            · obtain ⟨v, hv⟩ := (at1 i hi (.inr (hsp.resolve_left (by omega)))).2
              exact ⟨v, fun _ => hv⟩
            · exact ⟨.any, fun h => absurd h hi⟩
          obtain ⟨f, hf⟩ := Classical.axiomOfChoice cell
          have hlen : ((List.range len).map f).length = len := by simp
          have hmem : ∀ v ∈ (List.range len).map f, Reads P n e v := by
            intro v hv
            obtain ⟨i, hi, rfl⟩ := List.mem_map.1 hv
            exact (hf i (by have := List.mem_range.1 hi; omega)).1
          have hok := fun v hv => reads_ok n e v hte (hmem v hv)
          by_cases hl0 : len = 0
          · subst hl0
            refine ⟨.lst (shE P e) false .no [], ⟨false, [], rfl, (fun h => by cases h), fun x hx => by cases hx⟩, hc.symm, fun j hj => ?_⟩
            obtain rfl : j = 0 := by omega
            exact V.lst (w := W) (g := gN) (shE P e) .no [] a cap (fun _ => undef) hsp (Nat.zero_le _) hm (fun e he => by cases he) (fun j hj => by simp [flat] at hj) (fun j hj => by simp [flat] at hj) trivial
          · have hs0 : 0 < P.cellsOf e := (hok (f 0) (List.mem_map.2 ⟨0, List.mem_range.2 (by omega), rfl⟩)).2.2.2.1
            obtain ⟨fl1, fl2⟩ := flatS hs0 (fun v hv => (hok v hv).2.2.1)
            rw [hlen] at fl1 fl2
            have hcl : ∀ j, j < len * P.cellsOf e → ∃ u, W.cell? ⟨a.block, a.off + j, none⟩ = some u ∧ V W gN ((flat ((List.range len).map f)).getD j .any) u := by
              intro j hj
              have hd : j / P.cellsOf e < len := Nat.div_lt_of_lt_mul (by rw [Nat.mul_comm]; exact hj)
              have h1 := (hf (j / P.cellsOf e) (by omega)).2 (j % P.cellsOf e) (Nat.mod_lt _ hs0)
              have e1 : j / P.cellsOf e * P.cellsOf e + j % P.cellsOf e = j := Nat.div_add_mod' j _
              rw [e1] at h1
              rw [fl2 j hj, List.getD_eq_getElem?_getD (l := (List.range len).map f), List.getElem?_map, List.getElem?_range hd]
              exact h1
            have hus : ∀ j, ∃ u, j < len * P.cellsOf e → W.cell? ⟨a.block, a.off + j, none⟩ = some u ∧ V W gN ((flat ((List.range len).map f)).getD j .any) u := by
              intro j
              by_cases hj : j < len * P.cellsOf e
              · obtain ⟨u, hu⟩ := hcl j hj
                exact ⟨u, fun _ => hu⟩
              · exact ⟨undef, fun h => absurd h hj⟩
            obtain ⟨us, hus⟩ := Classical.axiomOfChoice hus
            refine ⟨.lst (shE P e) false .no ((List.range len).map f), ⟨false, _, rfl, (fun h => by cases h), hmem⟩, hc.symm, fun j hj => ?_⟩
            obtain rfl : j = 0 := by omega
            have hV := V.lst (w := W) (g := gN) (shE P e) .no ((List.range len).map f) a cap us hsp (by rw [hlen]; exact hl) hm
              (fun v hv => ⟨(hok v hv).1, (hok v hv).2.1⟩)
              (fun j hj => by
                rw [fl1] at hj
                exact ⟨(hus j hj).1, fun h => h, fun h => h⟩)
              (fun j hj => by
                rw [fl1] at hj
                exact (hus j hj).2) trivial
            rw [hlen] at hV
            exact hV
      | struct fs =>
        simp only [Bool.and_eq_true, beq_iff_eq, decide_eq_true_eq] at ht
        obtain ⟨⟨h1, h2⟩, h3⟩ := ht
        obtain ⟨xs, m, _, _, hcl, hxl, hf⟩ := DataW.trod_struct hu h
        have fld : ∀ i, ∃ v : AV, i < fs.size → ∀ f, fs[i]? = some f → Reads P n f.type v ∧ V W gN v (cs.getD i undef) := by
          intro i
          by_cases hi : i < fs.size
          · have hfi : fs[i]? = some fs[i] := Array.getElem?_eq_getElem hi
            obtain ⟨o, c, a, k⟩ := fieldsOk_get h3 i fs[i] (by rw [Array.getElem?_toList]; exact hfi)
            have hx := hf i fs[i] hfi
            rw [List.getElem?_eq_getElem (by omega)] at hx
            obtain ⟨v, hv, hlen, hV⟩ := reads n _ k hx
            refine ⟨v, fun _ f hf => ?_⟩
            rw [hfi] at hf
            obtain rfl := Option.some.inj hf
            refine ⟨hv, ?_⟩
            have h0 := hV 0 (by omega)
            have hat := (reads_ok n _ v k hv).2.2.2.2.2 a
            have hcells : v.cells = [v] := by
              cases v <;> first | rfl | (simp [atomOk] at hat)
            rw [hcells, o, Nat.zero_add, c] at h0
            have e0 : ((cs.drop i).take 1).getD 0 undef = cs.getD i undef := by
              rw [List.getD_eq_getElem?_getD, List.getD_eq_getElem?_getD, List.getElem?_take_of_lt (by omega), List.getElem?_drop]; rfl
            rw [e0] at h0
            exact h0
          · exact ⟨.any, fun h => absurd h hi⟩
        obtain ⟨F, hF⟩ := Classical.axiomOfChoice fld
        have hg : ∀ i, i < fs.size → ((List.range fs.size).map F).getD i .any = F i := by
          intro i hi
          rw [List.getD_eq_getElem?_getD, List.getElem?_map, List.getElem?_range hi]; rfl
        refine ⟨.agg ((List.range fs.size).map F), ⟨_, rfl, by simp, fun i f hf => ?_⟩, hcl, fun j hj => ?_⟩
        · have hi : i < fs.size := (Array.getElem?_eq_some_iff.1 hf).1
          rw [hg i hi]
          exact (hF i hi f hf).1
        · rw [h1] at hj
          show V W gN (((List.range fs.size).map F).getD j .any) _
          rw [hg j hj]
          exact (hF j hj fs[j] (Array.getElem?_eq_getElem hj)).2
      | _ => cases ht
theorem read_slice {n t e : Nat} (ht : tyOk P n t = true) {v : Value} {d : DataW H} {ps : List MemPlace} (hu : P.underlying t = some (.slice e)) (hv : ∃ a len cap, v = .slice a len cap) (h : DataW.Trod enc P W 0 (fun _ => true) true t v d ps) : ∃ y : AV, V W gN y v ∧ Reads P n t y := by
  obtain ⟨a, len, cap, rfl⟩ := hv
  obtain ⟨fuel, h⟩ := h
  have h : DataW.trod enc P W 0 (fun _ => true) true fuel t [.slice a len cap] = some (d, ps) := h
  obtain ⟨y, hy, hl, hV⟩ := reads n t ht h
  obtain ⟨_, _, h3, _, _, h6⟩ := reads_ok n t y ht hy
  have hat : atomT P t = true := by unfold atomT; rw [hu]
  have hc : y.cells = [y] := by
    have := h6 hat
    cases y <;> first | rfl | (simp [atomOk] at this)
  have := hV 0 (by rw [← hl]; exact Nat.zero_lt_one)
  rw [hc] at this
  exact ⟨y, this, hy⟩
end
end Go.Ab

/- What the rows of the diagram seat share: the settings are sound; the table of powers; arguments read as data. -/
set_option linter.unusedVariables false
set_option linter.unusedSimpArgs false
set_option maxRecDepth 100000
namespace Go.Ab
open Go.Proofs Go.Proofs.Tryd Go.RowKit

theorem get_nil (nm : Nat) : Mem.get ([] : Mem) nm = none := by simp [Mem.get]
theorem memR0 {w : World} (h : Yd.tab w) : MemR w.heap.size w gN [] where
  obj nm bx cs h := by rw [get_nil] at h; cases h
  tok nm n sz h := by rw [get_nil] at h; cases h
  resv nm h := ⟨rfl, fun _ => rfl⟩
  fresh nm h := ⟨rfl, fun _ => rfl⟩
  inj nm nm' b h := by unfold blk at h; rw [get_nil] at h; cases h
  wrLt b off h := h.elim
  inv w' k := Yd.tab_below (Yd.tab_lt h) h k
  boxLt b h := h.elim
  mp nm kk es h := by rw [get_nil] at h; cases h
theorem cfgOk : CfgOk cfg where
  ben g h caps := by
    have h : tokGet benOf g = true := h
    unfold benOf at h
    simp only [tokGet] at h
    split at h
    · rename_i e; obtain rfl : 72 = g := Nat.eq_of_beq_eq_true e; exact ben72 caps
    · split at h
      · rename_i e; obtain rfl : 84 = g := Nat.eq_of_beq_eq_true e; exact ben84 caps
      · cases h
  name g fn h := by
    have hall : (Tryd.prog.funcs.toList.all fun fn => !(fn.name == "runtime.NumGoroutine")) = true := by kernel_rfl
    have hm : fn ∈ Tryd.prog.funcs.toList := by
      rw [Array.mem_toList_iff]
      exact Array.mem_of_getElem? h
    have := List.all_eq_true.1 hall fn hm
    simpa using this
  lib g h hh := by
    have hh : (match Nat.beq g 73 with | true => some nameA | false => none) = some h := hh
    split at hh
    · rename_i e
      obtain rfl : g = 73 := Nat.eq_of_beq_eq_true e
      obtain rfl := Option.some.inj hh
      exact ⟨⟨f73, at73, by kernel_rfl⟩, fun vs v hv m => name_ok vs v hv m⟩
    · cases hh
/-- A law that answers true in values answers true on the machine, and turns nothing that was there. -/
theorem law_calls {f : Nat} {args : List AV} {vs : Array Value} {W : World} (ht : Yd.tab W) (h : ∃ m', AC cfg f args [] = some (.bool true, m')) (hl : args.length = vs.size) (hv : ∀ j, j < args.length → V W gN (args.getD j .any) (vs.getD j undef)) :
    Calls Tryd.prog f vs W fun e W' => e = .returned (.bool true) ∧ Below W.heap.size W W' := by
  obtain ⟨m', hm'⟩ := h
  refine ((AC_sound cfgOk f args [] _ _ hm').1 W.heap.size W gN vs (memR0 ht) (Nat.le_refl _) hl hv).mono ?_
  rintro e W' ⟨v', g', rfl, hs, _, hv'⟩
  cases hv'
  exact ⟨rfl, hs.below⟩
/-! ### The table of powers -/
abbrev laidOf : List (String × DataW Unit) := YtpkhogofbdlfeaaDoor.Rows.diagramStepsRow.laid
theorem tab_of_laid {W : World} (h : laidMetH Tryd.prog laidOf W) : Yd.tab W := by
  rw [MakeChecks.laidMetH_plain _ _ _ (by kernel_rfl)] at h
  obtain ⟨ps, ⟨g1, t1, cs1, fuel1, p1, q1, _, _, _, _, ⟨g2, t2, cs2, fuel2, p2, q2, _, _, _, _, ⟨g, t, cs, fuel, p, q, hg, ht, hv, hd, _, _⟩, _⟩, _⟩, _⟩ := h
  obtain rfl := Option.some.inj (Yd.globalPow.symm.trans hg)
  obtain rfl := Option.some.inj ((show (Tryd.prog.globals[0]?).map (·.type) = some 134 by kernel_rfl).symm.trans ht)
  unfold Yd.tab Lib.TabIs
  rw [hv]
  have := Lib.cells_of_tab (zs := Lib.pow10Tab) (k := .u64) Tryd.underlying134 Tryd.underlying128 (by kernel_rfl) (by kernel_rfl) hd
  rw [← this]
/-! ### Types, readers -/
theorem u3 : Tryd.prog.underlying 3 = some (.int .i64) := by kernel_rfl
theorem u4 : Tryd.prog.underlying 4 = some .bool := by kernel_rfl
theorem u22 : Tryd.prog.underlying 22 = some (.slice 3) := by kernel_rfl
noncomputable def fieldsOf (t : Nat) : Array Field := match Tryd.prog.underlying t with
  | some (.struct fs) => fs
  | _ => #[]
theorem s3 : shE Tryd.prog 3 = none := by unfold shE; rw [u3]
theorem sz {t : Nat} {l : List Nat} (h : (fieldsOf t).toList.map (fun f => f.type) = l) : (fieldsOf t).size = l.length := by
  rw [← h, List.length_map, Array.length_toList]
theorem rd_slice {n t e : Nat} {v : AV} (ht : Tryd.prog.underlying t = some (.slice e)) (h : Reads Tryd.prog (n + 1) t v) : ∃ z es, v = .lst (shE Tryd.prog e) z .no es ∧ (z = true → es = []) ∧ ∀ x ∈ es, Reads Tryd.prog n e x := by
  unfold Reads at h
  rw [ht] at h
  exact h
theorem rd_int {n : Nat} {v : AV} (h : Reads Tryd.prog (n + 1) 3 v) : ∃ i, v = .int .i64 i ∧ Yd.i64 i := by
  unfold Reads at h
  rw [u3] at h
  obtain ⟨i, h1, hw⟩ := h
  refine ⟨i, h1, ?_⟩
  simp only [Lit.wf, Bool.and_eq_true, decide_eq_true_eq] at hw
  exact hw
theorem list_map' {α : Type} {f : α → AV} {Q : α → Prop} : ∀ {es : List AV}, (∀ x ∈ es, ∃ a, x = f a ∧ Q a) → ∃ l : List α, es = l.map f ∧ ∀ a ∈ l, Q a
  | [], _ => ⟨[], rfl, by simp⟩
  | x :: es, h => by
    obtain ⟨a, rfl, ha⟩ := h x List.mem_cons_self
    obtain ⟨l, rfl, hl⟩ := list_map' (f := f) (Q := Q) fun y hy => h y (List.mem_cons_of_mem _ hy)
    exact ⟨a :: l, rfl, fun b hb => by
      rcases List.mem_cons.1 hb with rfl | hb
      · exact ha
      · exact hl b hb⟩
theorem rd_ints {n : Nat} {v : AV} (h : Reads Tryd.prog (n + 2) 22 v) : ∃ z ns, v = IA z .no ns ∧ (z = true → ns = []) ∧ ∀ k ∈ ns, Yd.i64 k := by
  obtain ⟨z, es, rfl, hz, he⟩ := rd_slice u22 h
  obtain ⟨ns, rfl, hd⟩ := list_map' (f := AV.int .i64) (Q := Yd.i64) (fun x hx => rd_int (he x hx))
  exact ⟨z, ns, by rw [s3], fun h => List.map_eq_nil_iff.1 (hz h), hd⟩
theorem ok22 : tyOk Tryd.prog 2 22 = true := by kernel_rfl
section
variable {H : Type} {enc : TypeId × Value → H} {W : World}
theorem ints_read {v : Value} {d : DataW H} {ps : List MemPlace} (hv : ∃ a len cap, v = .slice a len cap) (h : DataW.Trod enc Tryd.prog W 0 (fun _ => true) true 22 v d ps) : ∃ z ns, V W gN (IA z .no ns) v ∧ (z = true → ns = []) ∧ ∀ k ∈ ns, Yd.i64 k := by
  obtain ⟨y, hy, hr⟩ := read_slice ok22 u22 hv h
  obtain ⟨z, ns, rfl, hc⟩ := rd_ints hr
  exact ⟨z, ns, hy, hc⟩
end
end Go.Ab
