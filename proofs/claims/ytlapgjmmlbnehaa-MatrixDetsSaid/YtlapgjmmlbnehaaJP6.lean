/- matrix.Det on the machine: the loop. -/
import Derived.Test.YtlapgjmmlbnehaaJP5
import Derived.Test.YtlapgjmmlbnehaaJP4
set_option linter.unusedVariables false
set_option linter.unusedSimpArgs false
set_option maxRecDepth 100000
namespace Go.Ab
open Go.Proofs.Try Go.RowKit

theorem V.it {w : World} {g : G} {a b : Int} {sh sh' : Sh} {z : Bool} {o : Own} {es : List AV} {v : Value} (h : V w g (.vptr [.int .i64 a, .int .i64 b, .lst sh z o es]) v) (hs : sh = sh' ∨ es = []) (hc : cl (.lst sh z o es) = true) : V w g (.vptr [.int .i64 a, .int .i64 b, .lst sh' z o es]) v := by
  rcases hs with rfl | rfl
  · exact h
  · cases h with
    | vptr cs b' off us hcell hv =>
      refine .vptr _ b' off us (fun j hj => hcell j (by simpa using hj)) (fun j hj => ?_)
      match j, hj with
      | 0, _ => exact hv 0 (by simp)
      | 1, _ => exact hv 1 (by simp)
      | 2, _ => exact (hv 2 (by simp)).resh hc
theorem cl_lv {l : LV} (h : l.fr = l) : cl l.av = true := by
  obtain ⟨sh, z, o, es⟩ := l
  cases o with
  | no => rfl
  | full => rfl
  | tok a b => simp [LV.fr, Own.fr] at h
theorem core47n {x : MV} {k n : Nat} (hx : IsM k x) (hk1 : 1 ≤ k) (hk : k < 2 ^ 36) (hb : rightM x = true) (hxn : x.rows = n) (hxc : x.cols = n) (hn : n ≤ 60) (hK : 1 + n * kk k n < 2 ^ 36) (hK2 : kk k n < 2 ^ 36) {ts1 ts2 : List AV} {m1 m2 : Mem} {p r : Nat} {odd : Bool} {xx : MV} {ns : List Nat}
    (q1 : ∀ K : Ex → St → Option (AV × Mem), execW cfg 47 (AP cfg) (AC cfg) (c1 (c2 (c2 (c2 (bodyOf f47))))) ⟨[.any, (.ptr 0 0), (.ptr 1 0), .any, .any, .any, .any, .any, .any, .any, .any, .any, .any, .any, .any, .any, .any, .any, .any, .any, .any, .any, .any, .any, .any, .any, .any, .any, .any, .any, .any, .any, .any, .any, .any, .any, .any, .any, .any, .any, .any, .any, .any, .any, .any, .any, .any, .any, .any], [cM x, cR zR]⟩ K = K .normal ⟨ts1, m1⟩) (l1 : ts1.length = 49) (l12 : ts1.getD 2 .any = .ptr 1 0) (l14 : ts1.getD 4 .any = .ptr p 0)
    (q2 : ∀ K : Ex → St → Option (AV × Mem), execW cfg 47 (AP cfg) (AC cfg) (c1 (c2 (c2 (c2 (c2 (bodyOf f47)))))) ⟨[.any, .any, (.ptr 1 0), .any, (.ptr p 0), .any, .any, .any, .any, .any, .any, .any, .any, .any, .any, .any, .any, .any, .any, .any, .any, .any, .any, .any, .any, .any, .any, .any, .any, .any, .any, .any, .any, .any, .any, .any, .any, .any, .any, .any, .any, .any, .any, .any, .any, .any, .any, .any, .any], m1⟩ K = K .normal ⟨ts2, m2⟩) (l2 : ts2.length = 49) (l22 : ts2.getD 2 .any = .ptr 1 0) (l24 : ts2.getD 4 .any = .ptr p 0) (l25 : ts2.getD 5 .any = .int .i64 r) (l26 : ts2.getD 6 .any = .bool odd) (D : Dn x k n m2 p r odd xx ns) (hr : ¬ r < n) :
    ∃ R : RV, R.fr = R ∧ Can R (sgO odd * dgP (mxOf xx n) n) ∧ CallOk prog 47 [x.av] [] (.tup [R.av, .int .i64 0]) [] := by
  have hc : x.rows = x.cols := hxn.trans hxc.symm
  have kj : 1 ≤ kk k n := Nat.le_trans hk1 (kk_mono k (Nat.zero_le n))
  have oin := OL_in D.lok D.len kj hK (l := List.range n) (by rw [List.length_range]; omega) (fun t ht => List.mem_range.1 ht)
  obtain ⟨R, R1, R2, R3⟩ := D_h82 (odd := odd) oin.1 (OL_range D.lok D.len kj hK n (Nat.le_refl n)) oin.2.1
  refine ⟨R, R2, R1, ?_⟩
  intro B w g vs hm hB hl hv
  refine (callsIn_wide (n := 5)).1 ?_
  have hF : Fine Fence.wide := .inl rfl
  refine callsIn_of_wp_marks (fn := f47) (c := bodyOf f47) ?hf ?hb ?hF ?hh ?hro
  case hf => exact hf47
  case hb => exact hb47
  case hF => exact hF.fn 47
  case hro => rfl
  have hvs1 : vs.size = 1 := by simpa using hl.symm
  rw [nt47, hvs1]
  have hts := tmpR_start hl hv 48
  rw [e47]
  refine wpIn_seq (execD (C := cfg) cfgOk hF calm47.1 (D_h0 x) (show StR B w g _ _ from ⟨hts, hm, hB⟩) fun a1 w1 g1 hs1 s1 hd1 => ?_)
  have p1 := hs1.pat (P := [.any, (.ptr 0 0), (.ptr 1 0), .any, .any, .any, .any, .any, .any, .any, .any, .any, .any, .any, .any, .any, .any, .any, .any, .any, .any, .any, .any, .any, .any, .any, .any, .any, .any, .any, .any, .any, .any, .any, .any, .any, .any, .any, .any, .any, .any, .any, .any, .any, .any, .any, .any, .any, .any]) rfl (fun t => by
        match t with
        | 1 | 2 => exact .inl rfl
        | 0 | 3 => exact .inr rfl
        | t + 4 => exact .inr (anyD' 45 t))
  refine wpIn_seq (execD (C := cfg) cfgOk hF calm47.2.1 (e0 := .normal) (fun K => (D_h1 hx (by omega) K).trans (if_pos hb)) p1 fun a2 w2 g2 hs2 s2 hd2 => ?_)
  have p2 := hs2.pat (P := [.any, (.ptr 0 0), (.ptr 1 0), .any, .any, .any, .any, .any, .any, .any, .any, .any, .any, .any, .any, .any, .any, .any, .any, .any, .any, .any, .any, .any, .any, .any, .any, .any, .any, .any, .any, .any, .any, .any, .any, .any, .any, .any, .any, .any, .any, .any, .any, .any, .any, .any, .any, .any, .any]) rfl (fun t => by
        match t with
        | 1 | 2 => exact .inl rfl
        | 0 | 3 | 4 | 5 | 6 | 7 | 8 | 9 | 10 | 11 | 12 => exact .inr rfl
        | t + 13 => exact .inr (anyD' 36 t))
  refine wpIn_seq (execD (C := cfg) cfgOk hF calm47.2.2.1 (e0 := .normal) (fun K => (D_h2 K).trans (if_pos hc)) p2 fun a3 w3 g3 hs3 s3 hd3 => ?_)
  have p3 := hs3.pat (P := [.any, (.ptr 0 0), (.ptr 1 0), .any, .any, .any, .any, .any, .any, .any, .any, .any, .any, .any, .any, .any, .any, .any, .any, .any, .any, .any, .any, .any, .any, .any, .any, .any, .any, .any, .any, .any, .any, .any, .any, .any, .any, .any, .any, .any, .any, .any, .any, .any, .any, .any, .any, .any, .any]) rfl (fun t => by
        match t with
        | 1 | 2 => exact .inl rfl
        | 0 | 3 | 4 | 5 | 6 | 7 | 8 | 9 | 10 | 11 | 12 | 13 | 14 | 15 | 16 | 17 | 18 => exact .inr rfl
        | t + 19 => exact .inr (anyD' 30 t))
  refine wpIn_seq (execD (C := cfg) cfgOk hF calm47.2.2.2.1 (e0 := .normal) q1 p3 fun a4 w4 g4 hs4 s4 hd4 => ?_)
  have p4 := hs4.pat (P := [.any, .any, (.ptr 1 0), .any, (.ptr p 0), .any, .any, .any, .any, .any, .any, .any, .any, .any, .any, .any, .any, .any, .any, .any, .any, .any, .any, .any, .any, .any, .any, .any, .any, .any, .any, .any, .any, .any, .any, .any, .any, .any, .any, .any, .any, .any, .any, .any, .any, .any, .any, .any, .any]) (by rw [l1]; rfl) (fun t => by
        match t with
        | 2 => exact .inl l12.symm
        | 4 => exact .inl l14.symm
        | 0 | 1 | 3 => exact .inr rfl
        | t + 5 => exact .inr (anyD' 44 t))
  refine wpIn_seq (execD (C := cfg) cfgOk hF calm47.2.2.2.2.1 (e0 := .normal) q2 p4 fun a5 w5 g5 hs5 s5 hd5 => ?_)
  have p5 := hs5.pat (P := [.any, .any, (.ptr 1 0), .any, (.ptr p 0), (.int .i64 r), (.bool odd), .any, .any, .any, .any, .any, .any, .any, .any, .any, .any, .any, .any, .any, .any, .any, .any, .any, .any, .any, .any, .any, .any, .any, .any, .any, .any, .any, .any, .any, .any, .any, .any, .any, .any, .any, .any, .any, .any, .any, .any, .any, .any]) (by rw [l2]; rfl) (fun t => by
        match t with
        | 2 => exact .inl l22.symm
        | 4 => exact .inl l24.symm
        | 5 => exact .inl l25.symm
        | 6 => exact .inl l26.symm
        | 0 | 1 | 3 => exact .inr rfl
        | t + 7 => exact .inr (anyD' 42 t))
  have s05 := (((s1.trans s2).trans s3).trans s4).trans s5
  have hd05 : a5.defers = [] := hd5.trans (hd4.trans (hd3.trans (hd2.trans hd1)))
  refine wpIn_seq (execD (C := cfg) cfgOk hF calm47.2.2.2.2.2.1 (e0 := .normal) (fun K => (D_h5 D K).trans (if_neg hr)) p5 fun a6 w6 g6 hs6 s6 hd6 => ?_)
  have p6 := hs6.pat (P := [.any, .any, (.ptr 1 0), .any, (.ptr p 0), .any, (.bool odd), .any, .any, .any, .any, .any, .any, .any, .any, .any, .any, .any, .any, .any, .any, .any, .any, .any, .any, .any, .any, .any, .any, .any, .any, .any, .any, .any, .any, .any, .any, .any, .any, .any, .any, .any, .any, .any, .any, .any, .any, .any, .any]) rfl (fun t => by
        match t with
        | 2 | 4 | 6 => exact .inl rfl
        | 0 | 1 | 3 | 5 | 7 | 8 | 9 | 10 | 11 | 12 | 13 | 14 | 15 | 16 | 17 | 18 | 19 | 20 | 21 | 22 | 23 | 24 | 25 | 26 | 27 | 28 | 29 | 30 | 31 | 32 => exact .inr rfl
        | t + 33 => exact .inr (anyD' 16 t))
  refine wpIn_seq (execD (C := cfg) cfgOk hF calm47.2.2.2.2.2.2.1 (e0 := .normal) (fun K => D_h6 K) p6 fun a7 w7 g7 hs7 s7 hd7 => ?_)
  have p7 := hs7.pat (P := [.any, .any, (.ptr 1 0), .any, (.ptr p 0), .any, (.bool odd), (.ptr m2.length 0), .any, .any, .any, .any, .any, .any, .any, .any, .any, .any, .any, .any, .any, .any, .any, .any, .any, .any, .any, .any, .any, .any, .any, .any, .any, .any, .any, .any, .any, .any, .any, .any, .any, .any, .any, .any, .any, .any, .any, .any, .any]) rfl (fun t => by
        match t with
        | 2 | 4 | 6 | 7 => exact .inl rfl
        | 0 | 1 | 3 | 5 | 8 | 9 | 10 | 11 | 12 | 13 | 14 | 15 | 16 | 17 | 18 | 19 | 20 | 21 | 22 | 23 | 24 | 25 | 26 | 27 | 28 | 29 | 30 | 31 | 32 | 33 | 34 => exact .inr rfl
        | t + 35 => exact .inr (anyD' 14 t))
  obtain ⟨v7, h7⟩ := D_h7 D
  refine wpIn_seq (wpIn_seq (execD (C := cfg) cfgOk hF calm47.2.2.2.2.2.2.2.1 (e0 := .normal) h7 p7 fun a8 w8 g8 hs8 s8 hd8 => ?_))
  have s08 := ((s05.trans s6).trans s7).trans s8
  have hd08 : a8.defers = [] := hd8.trans (hd7.trans (hd6.trans hd05))
  obtain ⟨pv, hpv, hVp⟩ := fn_inv (hs8.tmp.2 36 : V w8 g8 (.fn 114 [vM xx]) (a8.tmps.getD 36 undef))
  have hlvfr : xx.lv.fr = xx.lv := by have := D.fr; unfold MV.fr at this; exact congrArg MV.lv this
  have hVi : V w8 g8 (it114 n n xx.lv.z xx.lv.o (xx.lv.es.map RV.av)) pv := by
    have h1 : V w8 g8 (.vptr [.int .i64 (n : Int), .int .i64 (n : Int), .lst xx.lv.sh xx.lv.z xx.lv.o (xx.lv.es.map RV.av)]) pv := by
      have : vM xx = .vptr [.int .i64 (n : Int), .int .i64 (n : Int), .lst xx.lv.sh xx.lv.z xx.lv.o (xx.lv.es.map RV.av)] := by rw [vM, D.rows, D.cols]; rfl
      rw [← this]; exact hVp
    exact h1.it (D.lok.sh.imp id fun h => by rw [h]; rfl) (cl_lv hlvfr)
  have hBw8 : B ≤ w8.heap.size := hs8.size
  have g1 : (kill (m2 ++ [cR oneR]) ns)[1]? = some (cR zR) := (kill_ne ns _ 1 (fun h => by have := D.ns2 1 h; omega)).trans (app_get D.res)
  have gq : (kill (m2 ++ [cR oneR]) ns)[m2.length]? = some (cR oneR) := (kill_ne ns _ _ D.nq).trans get_last
  refine wpIn_block ?_
  refine wpIn_rangeFunc_ownF (F := Fence.wide) (n := 5) (P := prog) rfl (by omega) (gf := 114) (lb := #[pv]) hpv (hF.fn 114) enters114
    (stops114 (w := w8) (g := g8) hVi (by rw [List.length_map]; exact D.len) hn hn (n := 4) (by omega)) Hold.trans (fun W l o o' h1 h2 h3 _ => Hold.book (Nat.le_refl _) W l o o' h1 h2 h3) (Below.refl _ _) (fun _ => rfl)
    (fun pre W => ∃ g' m', Step B w8 g8 W g' ∧ MemR B W g' m' ∧ B ≤ W.heap.size ∧ (∀ y ∈ pre, y.1.1 < n) ∧ m'[m2.length]? = some (cR (OL xx n (pre.map fun y => y.1.1))) ∧ m'[1]? = some (cR zR))
    (fun c pre W => False)
    ?hI ?hIx ⟨g8, _, Step.refl _ _ _, hs8.mem, hs8.size, fun y hy => by simp at hy, gq, g1⟩
    (fun y => (({ tmps := ((#[37, 38] : Array Tmp).zip (enc114 y)).foldl (fun t (p, v) => t.setIfInBounds p v) a8.tmps, defers := [] } : Act).put (some 8) (.int .i64 (y.1.1 : Int))).put (some 9) y.1.2) ?assign ?body ?done ?stop
  case hI =>
    rintro pre W W' row ⟨g', m', h2, h3, h4, h5⟩ hg hr'
    have hn' : NonCells W row := fun q e => (hr' q e).2
    exact ⟨g', m', h2.grown hg hn' (fun q e => (hr' q e).1) hBw8, h3.grown hg hn', Nat.le_trans h4 hg.size, h5⟩
  case hIx => rintro c pre W W' row h; exact h.elim
  case stop => rintro D' c pre W hD _ h; exact h.elim
  case assign =>
    intro l y W K hK
    rw [eA47]
    have hz : 49 = a8.tmps.size := hs8.tmp.1
    have ez : enc114 y = #[.int .i64 (y.1.1 : Int), y.1.2] := rfl
    refine wpIn_seq (wpIn_region ?_)
    rw [szA47.1, wpOpsIn_cons]
    refine valIn (.inr ⟨l, rfl⟩) atA47 (v := .int .i64 (y.1.1 : Int)) (fun c h => by rw [opA47.1] at h; cases h) opA47.2.1 ?_ ?_
    · simp only [execOp, opA47.1, Sem.run_pure]
      rw [ez, fold47]
      simp [Act.eval, Array.getD_eq_getD_getElem?, Array.getElem?_setIfInBounds, ← hz]
    · rw [opA47.2.2]
      refine wpIn_region ?_
      rw [szA47.2, wpOpsIn_cons]
      refine valIn (.inr ⟨l, rfl⟩) atB47 (v := y.1.2) (fun c h => by rw [opB47.1] at h; cases h) opB47.2.1 ?_ ?_
      · simp only [execOp, opB47.1, Sem.run_pure]
        rw [ez, fold47]
        simp [Act.eval, Act.put, Array.getD_eq_getD_getElem?, Array.getElem?_setIfInBounds, ← hz]
      · rw [opB47.2.2]
        exact hK
  case body =>
    rintro l pre y W ⟨g', m', h2, h3, h4, h5, h6, h7'⟩ hlen
    have hi : y.1.1 < n := y.2.1
    have hpl : pre.length < n := hlen
    have hok : LOk (kk k n) ⟨some 3, xx.lv.z, .no, (xx.lv.es.take ((y.1.1 + 1) * n)).drop (y.1.1 * n)⟩ := ⟨.inl rfl, fun hz => by
      have h0 : xx.lv.es = [] := D.lok.z hz
      show (xx.lv.es.take ((y.1.1 + 1) * n)).drop (y.1.1 * n) = []
      simp [h0], fun t ht => D.lok.fr t (List.mem_of_mem_take (List.mem_of_mem_drop ht)), fun t ht => D.lok.ok t (List.mem_of_mem_take (List.mem_of_mem_drop ht))⟩
    have hrow : (LV.av ⟨some 3, xx.lv.z, .no, (xx.lv.es.take ((y.1.1 + 1) * n)).drop (y.1.1 * n)⟩) = rowA xx.lv.z (xx.lv.es.map RV.av) n y.1.1 := by
      show AV.lst (some 3) xx.lv.z .no (((xx.lv.es.take ((y.1.1 + 1) * n)).drop (y.1.1 * n)).map RV.av) = AV.lst (some 3) xx.lv.z .no (((xx.lv.es.map RV.av).take ((y.1.1 + 1) * n)).drop (y.1.1 * n))
      rw [← List.map_take, ← List.map_drop]
    have hb2 : (y.1.1 + 1) * n ≤ xx.lv.es.length := by rw [D.len]; exact Nat.mul_le_mul_right n hi
    have hp : y.1.1 * n + y.1.1 < xx.lv.es.length := by rw [D.len]; exact cell_lt60 hi hi
    have hil : y.1.1 < ((xx.lv.es.take ((y.1.1 + 1) * n)).drop (y.1.1 * n)).length := by rw [List.length_drop, List.length_take, Nat.min_eq_left hb2]; have := Nat.add_mul y.1.1 1 n; omega
    have hcell : ((xx.lv.es.take ((y.1.1 + 1) * n)).drop (y.1.1 * n))[y.1.1] = xx.lv.es[y.1.1 * n + y.1.1] := by rw [List.getElem_drop, List.getElem_take]
    have hin := OL_in D.lok D.len kj hK (l := pre.map fun y => y.1.1) (by rw [List.length_map]; omega) (fun t ht => by obtain ⟨y', hy, rfl⟩ := List.mem_map.1 ht; exact h5 y' hy)
    have hst := fO_step D.lok D.len kj hK hin (by rw [List.length_map]; omega) hi
    have h78 : AP cfg 78 [(OL xx n (pre.map fun y => y.1.1)).av, (((xx.lv.es.take ((y.1.1 + 1) * n)).drop (y.1.1 * n))[y.1.1]).av] = some (fO xx n (OL xx n (pre.map fun y => y.1.1)) y.1.1).av := by
      rw [hcell]; exact hst.1 hp
    obtain ⟨ts, hb'⟩ := D_b2 (m := m') (s := fO xx n (OL xx n (pre.map fun y => y.1.1)) y.1.1) hok hil hin.2.1 h78 h6
    rw [hrow] at hb'
    have htm : TmpR W g' [.any, .any, .any, .any, .any, .any, .any, (.ptr m2.length 0), (.int .i64 (y.1.1 : Int)), (rowA xx.lv.z (xx.lv.es.map RV.av) n y.1.1), .any, .any, .any, .any, .any, .any, .any, .any, .any, .any, .any, .any, .any, .any, .any, .any, .any, .any, .any, .any, .any, .any, .any, .any, .any, .any, .any, .any, .any, .any, .any, .any, .any, .any, .any, .any, .any, .any, .any] ((({ tmps := ((#[37, 38] : Array Tmp).zip (enc114 y)).foldl (fun t (p, v) => t.setIfInBounds p v) a8.tmps, defers := [] } : Act).put (some 8) (.int .i64 (y.1.1 : Int))).put (some 9) y.1.2).tmps := by
      have t0 : TmpR W g' [.any, .any, .any, .any, .any, .any, .any, (.ptr m2.length 0), .any, .any, .any, .any, .any, .any, .any, .any, .any, .any, .any, .any, .any, .any, .any, .any, .any, .any, .any, .any, .any, .any, .any, .any, .any, .any, .any, .any, .any, .any, .any, .any, .any, .any, .any, .any, .any, .any, .any, .any, .any] a8.tmps := (hs8.tmp.step h2).less rfl (fun t => by
        match t with
        | 7 => exact .inl rfl
        | 0 | 1 | 2 | 3 | 4 | 5 | 6 | 8 | 9 | 10 | 11 | 12 | 13 | 14 | 15 | 16 | 17 | 18 | 19 | 20 | 21 | 22 | 23 | 24 | 25 | 26 | 27 | 28 | 29 | 30 | 31 | 32 | 33 | 34 | 35 | 36 => exact .inr rfl
        | t + 37 => exact .inr (anyD' 12 t))
      have t1 := t0.put' (a := a8) (v := .any) (v' := .int .i64 (y.1.1 : Int)) (.any _) 37 rfl
      have t2 := t1.put' (v := .any) (v' := y.1.2) (.any _) 38 rfl
      have t3 := t2.put' (v := .int .i64 (y.1.1 : Int)) (v' := .int .i64 (y.1.1 : Int)) (.int _ _) 8 rfl
      have t4 := t3.put' (v := rowA xx.lv.z (xx.lv.es.map RV.av) n y.1.1) (v' := y.1.2) (y.2.2.step h2) 9 rfl
      rw [show enc114 y = #[.int .i64 (y.1.1 : Int), y.1.2] from rfl, fold47]
      exact t4
    refine execD (C := cfg) cfgOk (.inr ⟨l, rfl⟩) calm47.2.2.2.2.2.2.2.2.1 (e0 := .normal) hb' (show StR B W g' _ _ from ⟨htm, h3, h4⟩) fun a' w' g'' hs' stp hd' => ?_
    have hq1 : m2.length ≠ 1 := fun h => by have := D.p2; omega
    refine ⟨⟨stp.below.size, stp.others⟩, Hold.of_step stp (fun b off hb0 hn => h2.wr b off hb0 hn), g'', _, h2.trans stp, hs'.mem, hs'.size, fun y' hy' => ?_, ?_, ?_⟩
    · rcases List.mem_append.1 hy' with h | h
      · exact h5 y' h
      · rw [List.mem_singleton] at h; subst h; exact hi
    · rw [List.map_append, List.map_cons, List.map_nil, OL_snoc]
      exact List.getElem?_set_self (List.getElem?_eq_some_iff.1 h6).1
    · rw [List.getElem?_set_ne hq1]; exact h7'
  case done =>
    rintro D' xs W hD hS ⟨g', m', h2, h3, h4, h5, h6, h7'⟩ hK'
    show Code.wpIn Fence.wide 5 prog (.seq (c1 (c2 (c2 (c2 (c2 (c2 (c2 (c2 (c2 (bodyOf f47)))))))))) (c2 (c2 (c2 (c2 (c2 (c2 (c2 (c2 (c2 (bodyOf f47))))))))))) _ _ _
    have p9 : StR B W g' ⟨[.any, .any, (.ptr 1 0), .any, .any, .any, (.bool odd), (.ptr m2.length 0), .any, .any, .any, .any, .any, .any, .any, .any, .any, .any, .any, .any, .any, .any, .any, .any, .any, .any, .any, .any, .any, .any, .any, .any, .any, .any, .any, .any, .any, .any, .any, .any, .any, .any, .any, .any, .any, .any, .any, .any, .any], m'⟩ { a8 with defers := { target := .collected D', args := #[] } :: a8.defers } := ⟨(hs8.tmp.step h2).less rfl (fun t => by
        match t with
        | 2 | 6 | 7 => exact .inl rfl
        | 0 | 1 | 3 | 4 | 5 | 8 | 9 | 10 | 11 | 12 | 13 | 14 | 15 | 16 | 17 | 18 | 19 | 20 | 21 | 22 | 23 | 24 | 25 | 26 | 27 | 28 | 29 | 30 | 31 | 32 | 33 | 34 | 35 | 36 => exact .inr rfl
        | t + 37 => exact .inr (anyD' 12 t)), h3, h4⟩
    have hS' : xs.map (fun y => y.1.1) = List.range n := hS
    rw [hS'] at h6
    obtain ⟨ts9, e9, l9, l92, l97⟩ := R3 m' _ h6
    refine wpIn_seq (execD (C := cfg) cfgOk hF calm47.2.2.2.2.2.2.2.2.2.1 (e0 := .normal) e9 p9 fun a9 w9 g9 hs9 s9 hd9 => ?_)
    have p10 := hs9.pat (P := [.any, .any, (.ptr 1 0), .any, .any, .any, .any, (.ptr m2.length 0), .any, .any, .any, .any, .any, .any, .any, .any, .any, .any, .any, .any, .any, .any, .any, .any, .any, .any, .any, .any, .any, .any, .any, .any, .any, .any, .any, .any, .any, .any, .any, .any, .any, .any, .any, .any, .any, .any, .any, .any, .any]) (by rw [l9]; rfl) (fun t => by
        match t with
        | 2 => exact .inl l92.symm
        | 7 => exact .inl l97.symm
        | 0 | 1 | 3 | 4 | 5 | 6 => exact .inr rfl
        | t + 8 => exact .inr (anyD' 41 t))
    have hq1 : m2.length ≠ 1 := fun h => by have := D.p2; omega
    have z1 : (m'.set m2.length (cR R))[1]? = some (cR zR) := by rw [List.getElem?_set_ne hq1]; exact h7'
    have zq : (m'.set m2.length (cR R))[m2.length]? = some (cR R) := List.getElem?_set_self (List.getElem?_eq_some_iff.1 h6).1
    refine execD (C := cfg) cfgOk hF calm47.2.2.2.2.2.2.2.2.2.2 (e0 := .ret) (fun K => D_t zq z1 K) p10 fun a10 w10 g10 hs10 s10 hd10 => ?_
    have hK2' := s10.others _ _ (s9.others _ _ hK' rfl) rfl
    refine leavesD hs10 (rs47 _ _ R 0 rfl rfl (List.getElem?_set_self (List.getElem?_eq_some_iff.1 z1).1)) (by rw [hd10, hd9]; show _ :: a8.defers = _; rw [hd08]) hK2' fun v hv hmm => ?_
    have hDw : w.heap.size ≤ D' := Nat.le_trans s08.below.size hD
    refine ⟨v, g10.bare, rfl, (((((s08.trans h2).trans s9).trans s10)).grown (grownBy_putObj' w10 D' (.deferred none)) (fun q e => by cases e; exact ⟨_, hK2', rfl⟩) (fun q e => by cases e; exact hDw) hB).bare hm, hmm.none, ?_⟩
    refine V.bare hv ?_
    have e1 := congrArg RV.num R2
    have e2 := congrArg RV.den R2
    obtain ⟨neg, ⟨z1, o1, d1⟩, ⟨z2, o2, d2⟩⟩ := R
    simp only [RV.fr, NV.fr, NV.mk.injEq, true_and, and_true] at e1 e2
    cases o1 <;> cases o2 <;> simp [Own.fr] at e1 e2 <;> rfl
end Go.Ab

/- Det: what its steps tell of the determinant. -/
set_option linter.unusedVariables false
namespace Go.Ab

theorem det_low {n : Nat} {M N : MX} {s : Rat} {r : Nat} {cs : Nat → Nat} (E : EC n n M N s r n cs) (hr : r < n) : det n M = 0 := by
  have h := E.re.det (Nat.le_refl n)
  rw [det_row0 (M := N) (r := r) hr fun k hk => E.ech.rest r (Nat.le_refl r) hr k hk] at h
  have h0 := E.re.ne0
  have : s * det n M = 0 := h.symm
  rcases Rat.mul_eq_zero.1 this with h1 | h1
  · exact absurd h1 h0
  · exact h1
theorem det_full {n : Nat} {M N : MX} {s : Rat} {cs : Nat → Nat} {odd : Bool} (E : EC n n M N s n n cs) (hs : s = sgO odd) : det n M = sgO odd * det n N := by
  have h := E.re.det (Nat.le_refl n)
  rw [h, hs]
  cases odd <;> simp only [sgO, if_true, Bool.false_eq_true, if_false] <;> grind
theorem diag_dgP (N : MX) : ∀ d i, diagP N d i * dgP N i = dgP N (i + d)
  | 0, i => by simp only [diagP, Nat.add_zero]; grind
  | d + 1, i => by
    have h := diag_dgP N d (i + 1)
    rw [dgP] at h
    rw [diagP, show i + (d + 1) = i + 1 + d by omega, ← h]
    grind
end Go.Ab

/- Det: the call, whole, and the interpreter that knows it. -/
set_option linter.unusedVariables false
set_option linter.unusedSimpArgs false
set_option maxRecDepth 100000
namespace Go.Ab
open Go.Proofs.Try Go.RowKit

theorem dgP_congr {A B : MX} : ∀ {n : Nat}, (∀ i, i < n → A i i = B i i) → dgP A n = dgP B n
  | 0, _ => rfl
  | n + 1, h => by rw [dgP, dgP, dgP_congr fun i hi => h i (by omega), h n (by omega)]
theorem Bd_sgO {k : Nat} {q : Rat} (odd : Bool) (h : Bd k q) : Bd k (sgO odd * q) := by
  cases odd with
  | false => rw [show sgO false * q = q by unfold sgO; rw [if_neg (by decide)]; grind]; exact h
  | true => rw [show sgO true * q = -q by unfold sgO; rw [if_pos rfl]; grind]; exact Bd_neg h
theorem core47d {x : MV} {k n : Nat} (hx : IsM k x) (hk1 : 1 ≤ k) (hk : k < 2 ^ 36) (hb : rightM x = true) (hxn : x.rows = n) (hxc : x.cols = n) (hn : n ≤ 60) (hK : 1 + n * kk k n < 2 ^ 36) (hK2 : kk k n < 2 ^ 36) : ∃ R : RV, R.fr = R ∧ Can R (det n (mxOf x n)) ∧ Bd (1 + n * kk k n) (det n (mxOf x n)) ∧ CallOk prog 47 [x.av] [] (.tup [R.av, .int .i64 0]) [] := by
  have kj : 1 ≤ kk k n := Nat.le_trans hk1 (kk_mono k (Nat.zero_le n))
  obtain ⟨ts1, m1, ts2, m2, p, r, odd, xx, ns, q1, ⟨l1, l12, l14⟩, q2, ⟨l2, l22, l24, l25, l26⟩, D⟩ := D34 hx hb hxn hxc hn hk1 hK2
  obtain ⟨N, s, cs, E, hs, hN⟩ := D.ec
  by_cases hr : r < n
  · refine ⟨zeroR, zeroR_fr, ?_, ?_, core47c hx hk hb hxn hxc q1 l1 l12 l14 q2 l2 l22 l24 l25 l26 D hr⟩
    · rw [det_low E hr]
      exact can_zero
    · rw [det_low E hr]
      exact Bd_zero (by omega)
  · obtain ⟨R, R1, R2, R3⟩ := core47n hx hk1 hk hb hxn hxc hn hK hK2 q1 l1 l12 l14 q2 l2 l22 l24 l25 l26 D hr
    have oin := OL_in D.lok D.len kj hK (l := List.range n) (by rw [List.length_range]; omega) (fun t ht => List.mem_range.1 ht)
    have b1 : Bd (1 + n * kk k n) (dgP (mxOf xx n) n) := by
      rw [← (OL_range D.lok D.len kj hK n (Nat.le_refl n)).q]
      exact oin.1.bd (by omega)
    have b2 := Bd_sgO odd b1
    have hrn : r = n := Nat.le_antisymm E.ech.le (Nat.not_lt.1 hr)
    subst hrn
    have e2 : dgP (mxOf xx r) r = dgP N r := dgP_congr fun i hi => hN i i hi hi
    have e3 : det r N = dgP N r := by
      rw [det_tri (E.ech.tri), ← Nat.zero_add r, ← diag_dgP N r 0]
      simp only [dgP, Nat.zero_add]
      grind
    have e4 : det r (mxOf x r) = sgO odd * dgP (mxOf xx r) r := by rw [det_full E hs, e3, ← e2]
    rw [e4]
    exact ⟨R, R1, R2, b2, R3⟩
theorem NV.av_inj {a b : NV} (h : a.av = b.av) : a = b := by
  obtain ⟨z, o, ds⟩ := a
  obtain ⟨z', o', ds'⟩ := b
  simp only [NV.av, AV.lst.injEq, true_and] at h
  obtain ⟨rfl, rfl, h⟩ := h
  have hd : ∀ x y : Nat, dg x = dg y → x = y := fun x y h => by
    simp only [dg, AV.int.injEq, true_and] at h
    omega
  rw [(List.map_inj_right hd).1 h]
theorem RV.av_inj {a b : RV} (h : a.av = b.av) : a = b := by
  obtain ⟨n, x, y⟩ := a
  obtain ⟨n', x', y'⟩ := b
  simp only [RV.av, AV.agg.injEq, List.cons.injEq, AV.bool.injEq, and_true] at h
  obtain ⟨rfl, h1, h2⟩ := h
  rw [NV.av_inj h1, NV.av_inj h2]
theorem MV.av_inj {a b : MV} (h : a.av = b.av) : a = b := by
  obtain ⟨r, c, ⟨sh, z, o, es⟩⟩ := a
  obtain ⟨r', c', ⟨sh', z', o', es'⟩⟩ := b
  simp only [MV.av, LV.av, AV.agg.injEq, List.cons.injEq, AV.int.injEq, AV.lst.injEq, true_and, and_true] at h
  obtain ⟨rfl, rfl, rfl, rfl, rfl, h⟩ := h
  rw [(List.map_inj_right (fun x y hxy => RV.av_inj hxy)).1 h]
/-- What Det answers. -/
structure DetP (x : MV) (R : RV) (e : Int) : Prop where
  xfr : x.fr = x
  fr : R.fr = R
  call : CallOk prog 47 [x.av] [] (.tup [R.av, .int .i64 e]) []
  bad : rightM x = false → e = 1 ∧ R = zR
  shape : rightM x = true → x.rows ≠ x.cols → e = 30 ∧ R = zR
  ok : rightM x = true → ∀ n : Nat, x.rows = n → x.cols = n → e = 0 ∧ Can R (det n (mxOf x n))
theorem det_bd {x : MV} {k n : Nat} (hx : IsM k x) (hk1 : 1 ≤ k) (hk : k < 2 ^ 36) (hb : rightM x = true) (hxn : x.rows = n) (hxc : x.cols = n) (hn : n ≤ 60) (hK : 1 + n * kk k n < 2 ^ 36) (hK2 : kk k n < 2 ^ 36) : Bd (1 + n * kk k n) (det n (mxOf x n)) := by
  obtain ⟨_, _, _, h, _⟩ := core47d hx hk1 hk hb hxn hxc hn hK hK2
  exact h
theorem detP {x : MV} {k : Nat} (hx : IsM k x) (hk1 : 1 ≤ k) (hk : k < 2 ^ 36) (hK : rightM x = true → ∀ n : Nat, x.rows = n → x.cols = n → 1 + n * kk k n < 2 ^ 36 ∧ kk k n < 2 ^ 36) : ∃ R e, DetP x R e := by
  cases hb : rightM x with
  | false =>
    refine ⟨zR, 1, ⟨hx.fr, rfl, core47a hx hk hb, fun _ => ⟨rfl, rfl⟩, fun h => ?_, fun h => ?_⟩⟩
    · rw [hb] at h; cases h
    · rw [hb] at h; cases h
  | true =>
    by_cases hc : x.rows = x.cols
    · obtain ⟨r, c, hr, hcc, h6, _, _⟩ := right_len hb
      obtain ⟨k1, k2⟩ := hK hb r hr (hc ▸ hr)
      obtain ⟨R, R1, R2, _, R3⟩ := core47d hx hk1 hk hb hr (hc ▸ hr) h6 k1 k2
      refine ⟨R, 0, ⟨hx.fr, R1, R3, fun h => ?_, fun _ h => absurd hc h, fun _ n hn _ => ⟨rfl, ?_⟩⟩⟩
      · rw [hb] at h; cases h
      · obtain rfl : n = r := by omega
        exact R2
    · refine ⟨zR, 30, ⟨hx.fr, rfl, core47b hx hk hb hc, fun h => ?_, fun _ _ => ⟨rfl, rfl⟩, fun _ n h1 h2 => absurd (h1.trans h2.symm) hc⟩⟩
      rw [hb] at h; cases h
theorem callOk47 {x : MV} {R : RV} {e : Int} (h : DetP x R e) (m : Mem) : CallOk prog 47 [x.av] m (.tup [R.av, .int .i64 e]) m := by
  intro B w g vs hm hB hl hv
  have hf : mapF (frz m fuelF) [x.av] = some ([x.av], []) := by
    have e : frz m fuelF x.av = some (x.fr.av, []) := fz_mv x m
    simp only [mapF, e, h.xfr, Option.bind_some, Option.map_some, List.append_nil]
  classical
  refine pureCall_sound hm hB (P := prog) (f := 47) (call := fun f args m => if f = 47 ∧ args = [x.av] ∧ m = [] then some (.tup [R.av, .int .i64 e], []) else none) (fun args m v m' h' => ?_) hl hv hf (r := .tup [R.av, .int .i64 e]) ?_
  · simp only at h'
    split at h'
    · rename_i hc
      obtain ⟨_, rfl, rfl⟩ := hc
      simp only [Option.some.injEq, Prod.mk.injEq] at h'
      obtain ⟨rfl, rfl⟩ := h'
      exact h.call
    · cases h'
  · simp only [acallP, true_and, if_true, Option.bind_some]
    have e1 : frz [] fuelF (.tup [R.av, .int .i64 e]) = some (.tup [R.fr.av, .int .i64 e], []) := by
      have e2 : frz [] 8 R.av = some (R.fr.av, []) := frz_rv [] R
      have e3 : frz [] fuelF (.tup [R.av, .int .i64 e]) = (mapF (frz [] 8) [R.av, .int .i64 e]).map fun q => (.tup q.1, q.2) := rfl
      have e4 : frz [] 8 (.int .i64 e) = some (.int .i64 e, []) := rfl
      rw [e3]
      simp only [mapF, e2, e4, Option.bind_some, Option.map_some, List.append_nil]
    rw [e1, h.fr]
    rfl
open Classical in
noncomputable def h47 (vs : List AV) : Option AV := if h : ∃ p : MV × RV × Int, DetP p.1 p.2.1 p.2.2 ∧ vs = [p.1.av] then some (.tup [(Classical.choose h).2.1.av, .int .i64 (Classical.choose h).2.2]) else none
theorem h47_ex {x : MV} {R0 : RV} {e0 : Int} (hx : DetP x R0 e0) : ∃ R e, h47 [x.av] = some (.tup [R.av, .int .i64 e]) ∧ DetP x R e := by
  have h : ∃ p : MV × RV × Int, DetP p.1 p.2.1 p.2.2 ∧ [x.av] = [p.1.av] := ⟨(x, R0, e0), hx, rfl⟩
  obtain ⟨h1, e⟩ := Classical.choose_spec h
  have e1 := MV.av_inj (List.cons.inj e).1
  have h2 : h47 [x.av] = some (.tup [(Classical.choose h).2.1.av, .int .i64 (Classical.choose h).2.2]) := by unfold h47; rw [dif_pos h]
  generalize Classical.choose h = p at h1 e1 h2
  exact ⟨_, _, h2, e1 ▸ h1⟩
noncomputable def lib5 (g : Nat) : Option (List AV → Option AV) := match Nat.beq g 47 with
  | true => some h47
  | false => cfg.lib g
noncomputable def cfg5 : Cfg := cfg.plug lib5
theorem plugs5 : Plugs cfg lib5 := fun g => by
  unfold lib5
  cases hb : Nat.beq g 47 with
  | false => exact .inl rfl
  | true =>
    right
    have := Nat.eq_of_beq_eq_true hb
    subst this
    rfl
theorem AP5 {f : Nat} {args : List AV} {v : AV} (h : AP cfg f args = some v) : AP cfg5 f args = some v := AP_plug plugs5 h
theorem cfgOk5 : CfgOk cfg5 where
  name := cfgOk.name
  lib g h hh := by
    have hh' : lib5 g = some h := hh
    unfold lib5 at hh'
    cases hb : Nat.beq g 47 with
    | false => rw [hb] at hh'; exact cfgOk.lib g h hh'
    | true =>
      rw [hb] at hh'
      obtain rfl := Option.some.inj hh'
      have := Nat.eq_of_beq_eq_true hb
      subst this
      refine ⟨⟨f47, hf47, by rw [hb47]; rfl⟩, fun vs v hv m => ?_⟩
      unfold h47 at hv
      split at hv
      · rename_i hx
        obtain ⟨h1, e⟩ := Classical.choose_spec hx
        simp only [Option.some.injEq] at hv
        subst hv
        have hc := callOk47 h1 m
        rw [← e] at hc
        exact hc
      · cases hv
/-- A law on the machine. -/
theorem law_calls5 {f : Nat} {args : List AV} {vs : Array Value} {W : World} (h : ∃ m', AC cfg5 f args [] = some (.bool true, m')) (hl : args.length = vs.size) (hv : ∀ j, j < args.length → V W g0 (args.getD j .any) (vs.getD j undef)) :
    Calls Go.Proofs.Try.prog f vs W fun e W' => e = .returned (.bool true) ∧ Below W.heap.size W W' := by
  obtain ⟨m', hm'⟩ := h
  refine ((AC_sound cfgOk5 f args [] _ _ hm').1 W.heap.size W g0 vs (memR0 W) (Nat.le_refl _) hl hv).mono ?_
  rintro e W' ⟨v', g', rfl, hs, _, hv'⟩
  cases hv'
  exact ⟨rfl, hs.below⟩
end Go.Ab

/- What the interpreter does, function by function. -/
set_option maxRecDepth 100000
set_option linter.unusedVariables false
namespace Go.Ab
open Go.Proofs.Try
/-! ### sortilege/sortilegelaw19.MatrixDets -/
theorem T10 (a0 a1 : AV) (m : Mem) : AC cfg5 10 [a0, a1] m =
  (boxA none (some 3) m a0).bind fun r1 =>
  (boxA none (some 3) r1.2 a1).bind fun r2 =>
  (loadA (some 3) r2.2 r1.1).bind fun v3 =>
  (pcall (AP cfg5) (some r2.2.length) r2.2 43 [v3, (.int .i64 6)]).bind fun r4 =>
  (loadA (some 3) r4.2 r2.1).bind fun v5 =>
  (pcall (AP cfg5) (some r2.2.length) r4.2 43 [v5, (.int .i64 6)]).bind fun r6 =>
  (storeA (some 3) r6.2 r1.1 r4.1).bind fun m7 =>
  (storeA (some 3) m7 r2.1 r6.1).bind fun m8 =>
  (fieldAddrA 0 r1.1).bind fun v9 =>
  (loadA none m8 v9).bind fun v10 =>
  (fieldAddrA 0 r2.1).bind fun v11 =>
  (loadA none m8 v11).bind fun v12 =>
  (maxA false v10 v12).bind fun v13 =>
  (loadA (some 3) m8 r1.1).bind fun v14 =>
  (pcall (AP cfg5) none m8 21 [v14]).bind fun r15 =>
  (unA .not r15.1).bind fun v16 =>
  ifA v16 (
  (pcall (AP cfg5) none r15.2 26 []).bind fun r17 =>
  some (r17.1, r17.2)) (
  (loadA (some 3) r15.2 r2.1).bind fun v18 =>
  (pcall (AP cfg5) none r15.2 21 [v18]).bind fun r19 =>
  (unA .not r19.1).bind fun v20 =>
  ifA v20 (
  (pcall (AP cfg5) none r19.2 26 []).bind fun r21 =>
  some (r21.1, r21.2)) (
  (loadA (some 3) r19.2 r1.1).bind fun v22 =>
  (pcall (AP cfg5) (some r19.2.length) r19.2 13 [v22, v13]).bind fun r23 =>
  (loadA (some 3) r23.2 r2.1).bind fun v24 =>
  (pcall (AP cfg5) (some r19.2.length) r23.2 13 [v24, v13]).bind fun r25 =>
  (storeA (some 3) r25.2 r1.1 r23.1).bind fun m26 =>
  (storeA (some 3) m26 r2.1 r25.1).bind fun m27 =>
  (loadA (some 3) m27 r1.1).bind fun v28 =>
  (h47 [v28]).bind fun v29 =>
  (extractA v29 0).bind fun v30 =>
  (extractA v29 1).bind fun v31 =>
  (storeA (some 3) (newAt none m27 (.obj true [(.bool false), (.lst none true .full []), (.lst none true .full [])])).2 (.ptr (newAt none m27 .resv).1 0) v30).bind fun m32 =>
  (loadA (some 3) m32 r2.1).bind fun v33 =>
  (h47 [v33]).bind fun v34 =>
  (extractA v34 0).bind fun v35 =>
  (extractA v34 1).bind fun v36 =>
  (storeA (some 3) (newAt none m32 (.obj true [(.bool false), (.lst none true .full []), (.lst none true .full [])])).2 (.ptr (newAt none m32 .resv).1 0) v35).bind fun m37 =>
  (loadA (some 3) m37 r1.1).bind fun v38 =>
  (loadA (some 3) m37 r2.1).bind fun v39 =>
  (pcall (AP cfg5) none m37 41 [v38, v39]).bind fun r40 =>
  (extractA r40.1 0).bind fun v41 =>
  (extractA r40.1 1).bind fun v42 =>
  (storeA (some 3) (newAt none r40.2 (.obj true [(.int .i64 0), (.int .i64 0), (.lst none true .full [])])).2 (.ptr (newAt none r40.2 .resv).1 0) v41).bind fun m43 =>
  (loadA (some 3) m43 (.ptr (newAt none r40.2 .resv).1 0)).bind fun v44 =>
  (h47 [v44]).bind fun v45 =>
  (extractA v45 0).bind fun v46 =>
  (extractA v45 1).bind fun v47 =>
  (storeA (some 3) (newAt none m43 (.obj true [(.bool false), (.lst none true .full []), (.lst none true .full [])])).2 (.ptr (newAt none m43 .resv).1 0) v46).bind fun m48 =>
  (loadA (some 3) m48 r1.1).bind fun v49 =>
  (pcall (AP cfg5) none m48 37 [v49]).bind fun r50 =>
  (extractA r50.1 0).bind fun v51 =>
  (extractA r50.1 1).bind fun v52 =>
  (storeA (some 3) (newAt none r50.2 (.obj true [(.int .i64 0), (.int .i64 0), (.lst none true .full [])])).2 (.ptr (newAt none r50.2 .resv).1 0) v51).bind fun m53 =>
  (loadA (some 3) m53 (.ptr (newAt none r50.2 .resv).1 0)).bind fun v54 =>
  (h47 [v54]).bind fun v55 =>
  (extractA v55 0).bind fun v56 =>
  (extractA v55 1).bind fun v57 =>
  (storeA (some 3) (newAt none m53 (.obj true [(.bool false), (.lst none true .full []), (.lst none true .full [])])).2 (.ptr (newAt none m53 .resv).1 0) v56).bind fun m58 =>
  (binA .other .eql v42 (.int .i64 0)).bind fun v59 =>
  ifA v59 (
  (binA .other .eql v47 (.int .i64 0)).bind fun v60 =>
  ifA v60 (
  (binA .other .eql v57 (.int .i64 0)).bind fun v61 =>
  ifA v61 (
  (loadA (some 3) m58 (.ptr (newAt none m43 .resv).1 0)).bind fun v62 =>
  (loadA (some 3) m58 (.ptr (newAt none m27 .resv).1 0)).bind fun v63 =>
  (loadA (some 3) m58 (.ptr (newAt none m32 .resv).1 0)).bind fun v64 =>
  (pcall (AP cfg5) (some m58.length) m58 29 [v63, v64]).bind fun r65 =>
  (pcall (AP cfg5) (some m58.length) r65.2 23 [v62, r65.1]).bind fun r66 =>
  ifA r66.1 (
  (loadA (some 3) r66.2 (.ptr (newAt none m53 .resv).1 0)).bind fun v67 =>
  (loadA (some 3) r66.2 (.ptr (newAt none m27 .resv).1 0)).bind fun v68 =>
  (pcall (AP cfg5) (some m58.length) r66.2 23 [v67, v68]).bind fun r69 =>
  ifA r69.1 (
  (pcall (AP cfg5) (some m58.length) r69.2 26 []).bind fun r70 =>
  some (r70.1, r70.2)) (
  some ((.bool false), r69.2))) (
  some ((.bool false), r66.2))) (
  some ((.bool false), m58))) (
  some ((.bool false), m58))) (
  some ((.bool false), m58)))) :=
(AC_eq cfg5 10 [a0, a1] m (fn := f10) (c := bodyOf f10) (by kernel_rfl) rfl).trans (by kernel_rfl)
end Go.Ab

/- Small steps of the laws. -/
set_option linter.unusedVariables false
set_option linter.unusedSimpArgs false
set_option maxRecDepth 100000
namespace Go.Ab
open Go.Proofs.Try

theorem ext0' (a b : AV) : extractA (.tup [a, b]) 0 = some a := rfl
theorem ext1' (a b : AV) : extractA (.tup [a, b]) 1 = some b := rfl
theorem mv_frfr' (x : MV) : x.fr.fr = x.fr := by
  obtain ⟨a, b, ⟨c, d, o, es⟩⟩ := x
  cases o <;> rfl
theorem pcNI {m : Mem} {d : Option Nat} {g : Nat} (x : NV) (n : Int) : pcall (AP cfg) d m g [x.av, .int .i64 n] = (AP cfg g [x.fr.av, .int .i64 n]).map fun v => (v, m) := pcall2 (fz_nv x) (fz_int _ n)
/-- An error has no size to speak of: the bounds may be taken as small. -/
theorem Res.small {z : MV} {e err : Int} {R C k : Nat} {Q : Nat → Rat} (h : Res z e err R C Q k) (hb : err = 0 → R ≤ 60 ∧ C ≤ 60) : ∃ R' C', R' ≤ 60 ∧ C' ≤ 60 ∧ (err = 0 → R' = R ∧ C' = C) := by
  by_cases h0 : err = 0
  · exact ⟨R, C, (hb h0).1, (hb h0).2, fun _ => ⟨rfl, rfl⟩⟩
  · exact ⟨0, 0, by omega, by omega, fun h => absurd h h0⟩
end Go.Ab

/- The law of determinants, in values. -/
set_option linter.unusedVariables false
set_option linter.unusedSimpArgs false
set_option maxRecDepth 100000
namespace Go.Ab
open Go.Proofs.Try

theorem cutR_right {r : RV} (h : ROk 3 r) : rightR (cutR r) = rightR r := by
  have e1 : r.num.ds.take 3 = r.num.ds := List.take_of_length_le h.ln
  have e2 : r.den.ds.take 3 = r.den.ds := List.take_of_length_le h.ld
  simp only [rightR, cutR, cutN, NV.v, e1, e2]
  rfl
theorem V13r {x : MV} {n : Nat} (hn : n ≤ 60) (hx0 : LOk 3 x.lv) (hfx : x.fr = x) (hrt : rightM x = true) : ∃ y : MV, AP cfg 13 [x.av, .int .i64 n] = some y.av ∧ LOk 3 y.lv ∧ y.lv.es.length ≤ 4000 ∧ y.fr = y ∧ rightM y = true ∧ y.rows = min x.rows n ∧ y.cols = min x.cols n := by
  have hx : XM x := hx0.xm
  obtain ⟨m', l', q0, q1, q2, q3, q4, q5⟩ := W13_3 hx (.int .i64 n) (K13_3 (finK cfg.P f13.results.toList)) (headL x.lv).es.length 0 [cM x, cM zM, cM ⟨x.rows, x.cols, nilL⟩] nilL (by omega) rfl rfl rfl (.inl rfl) rfl
  have hlen : l'.es.length ≤ 4000 := by
    rw [q4, List.length_map]
    show (x.lv.es.take 4000).length ≤ 4000
    rw [List.length_take]; omega
  have hlo : LOk 3 l' := rowAt_lok q3 (by rw [q4]; intro r hr; obtain ⟨r', _, rfl⟩ := List.mem_map.1 hr; exact cutR_fr _) (by rw [q4]; intro r hr; obtain ⟨r', h', rfl⟩ := List.mem_map.1 hr; exact cutR_ok (hx.es r' (List.mem_of_mem_take h')))
  have hl1 : 1 < m'.length := by
    apply Classical.byContradiction
    intro hc
    rw [List.getElem?_eq_none (by omega)] at q1
    cases q1
  have e1 := V21 (x := (MV.mk x.rows x.cols l').fr) hlo.fr' (k := 3) (by omega) (by show l'.es.length < _; omega)
  have hrf : rightM (MV.mk x.rows x.cols l').fr = rightM ⟨x.rows, x.cols, l'⟩ := rfl
  rw [hrf] at e1
  have a1 : ([cM x, cM zM] : Mem)[0]? = some (cM x) := rfl
  have a2 : ([cM x, cM zM, cM zM] : Mem)[2]? = some (cM zM) := rfl
  have a3 : ([cM x, cM zM, cM ⟨x.rows, x.cols, nilL⟩] : Mem)[0]? = some (cM x) := rfl
  have hmin : maxA false (.int .i64 x.lv.es.length) (.int .i64 4000) = some (.int .i64 (min x.lv.es.length 4000 : Nat)) := min_int _ 4000
  have fin : ((loadA (some 3) m' (.ptr 2 0)).bind fun v4 => (storeA (some 3) m' (.ptr 1 0) v4).bind fun m5 => (loadA (some 3) m5 (.ptr 1 0)).bind fun v6 => some (v6, m5)) = some (MV.av ⟨x.rows, x.cols, l'⟩, m'.set 1 (cM ⟨x.rows, x.cols, l'⟩)) := by
    rw [mldA q2, Option.bind_some, mstA q1, Option.bind_some, mldA (by rw [List.getElem?_set_self hl1])]
    rfl
  have pre : AC cfg 13 [x.av, .int .i64 n] [] = K13_3 (finK cfg.P f13.results.toList) (.exit 0) (O13_3 (.int .i64 n) (.ptr 0 0) (.ptr 1 0) (.ptr 2 0) m') := by
    rw [T13]
    simp only [Option.bind_some, box_mv, new_m, new_r, fld0, fld1, fld2, List.length_nil, List.nil_append, List.length_cons, List.cons_append, Nat.zero_add, Nat.reduceAdd]
    rw [mld0 a1, Option.bind_some, mld1 a1, Option.bind_some, bldM01, Option.bind_some, mstA a2, Option.bind_some]
    simp only [List.set_cons_succ, List.set_cons_zero]
    rw [mld2 a3, Option.bind_some, Option.bind_some, len_lv, Option.bind_some, hmin, Option.bind_some, slice_head _ hx.sh, Option.bind_some, len_lv, Option.bind_some]
    refine Eq.trans ?_ q5
    rfl
  have out : ∀ (z : MV) (mm : Mem), K13_3 (finK cfg.P f13.results.toList) (.exit 0) (O13_3 (.int .i64 n) (.ptr 0 0) (.ptr 1 0) (.ptr 2 0) m') = some (z.av, mm) → AP cfg 13 [x.av, .int .i64 n] = some z.fr.av := fun z mm h => AP_ofz _ _ (fz_mv z) (noV_mv _) (pre.trans h)
  have outl := out ⟨x.rows, x.cols, l'⟩ (m'.set 1 (cM ⟨x.rows, x.cols, l'⟩))
  rw [K13_3_x0, mldA q2, Option.bind_some, pcM, e1, Option.map_some, Option.bind_some, not_b, Option.bind_some] at outl
  have hall : ∀ u ∈ l'.es, rightR u = true := by
    rw [q4]; intro r hr; obtain ⟨r', h', rfl⟩ := List.mem_map.1 hr
    have hm := List.mem_of_mem_take h'
    rw [cutR_right (hx0.ok r' hm)]
    exact right_cells hrt r' hm
  have hbt : rightM ⟨x.rows, x.cols, l'⟩ = true := by
    obtain ⟨r0, c0, a1, a2, a3, a4, a5⟩ := right_len hrt
    refine right_of (r := r0) (c := c0) a1 a2 a3 a4 ?_ hall
    show l'.es.length = _
    rw [q4, List.length_map]
    show (x.lv.es.take 4000).length = _
    have : r0 * c0 ≤ 60 * 60 := Nat.mul_le_mul a3 a4
    rw [List.length_take, a5]; omega
  cases hb : rightM ⟨x.rows, x.cols, l'⟩ with
  | false => rw [hbt] at hb; cases hb
  | true =>
    have hsz : sizeB ⟨x.rows, x.cols, l'⟩ = true := by unfold rightM at hb; rw [Bool.and_eq_true] at hb; exact hb.1
    unfold sizeB at hsz
    obtain ⟨z1, z2, z3, z4, z5⟩ := of_decide_eq_true hsz
    have z1 : 0 ≤ x.rows := z1
    have z2 : x.rows ≤ 60 := z2
    have z3 : 0 ≤ x.cols := z3
    have z4 : x.cols ≤ 60 := z4
    have z5 : (l'.es.length : Int) = x.rows * x.cols := z5
    obtain ⟨rr, hrr⟩ := Int.eq_ofNat_of_zero_le z1
    obtain ⟨cc, hcc⟩ := Int.eq_ofNat_of_zero_le z3
    rw [hb, Bool.not_true, ifA_false, fld0, Option.bind_some, mld0 q0, Option.bind_some, binA_leq, Option.bind_some, ifA_dec] at outl
    have hlen2 : l'.es.length = rr * cc := by
      rw [hrr, hcc] at z5
      rw [← Int.natCast_mul] at z5
      exact Int.ofNat_inj.1 z5
    have hL := idx_lt q2
    obtain ⟨m2, l2, w1, w2, w3, w4, w5⟩ := W13_11 (rows := rr) (cols := cc) (o := l') (x0 := x) (R := min rr n) (C := min cc n) (L := m'.length) (by omega) (by omega) (by omega) (by omega) hlen2 (rowAt_sh q3) (by omega) hcc (K13_11 (finK cfg.P f13.results.toList)) (min rr n) 0 (m' ++ [cM ⟨(min rr n : Nat), (min cc n : Nat), nilL⟩]) nilL (by omega)
      (by rw [List.getElem?_append_left (by omega)]; exact q0) (by rw [List.getElem?_append_left (by omega)]; exact q1) (by rw [List.getElem?_append_left (by omega)]; exact q2) get_last (.inl rfl) rfl
    have fin2 : (loadA none m' (.ptr 0 0)).bind (fun v17 => (maxA false v17 (.int .i64 n)).bind fun v18 => (fieldAddrA 1 (.ptr 0 0)).bind fun v19 => (loadA none m' v19).bind fun v20 => (maxA false v20 (.int .i64 n)).bind fun v21 => (buildA (.agg [(.int .i64 0), (.int .i64 0), (.lst none true .full [])]) [(0, none, v18), (1, none, v21)]).bind fun v22 =>
        (storeA (some 3) (newAt none m' (.obj true [(.int .i64 0), (.int .i64 0), (.lst none true .full [])])).2 (.ptr (newAt none m' .resv).1 0) v22).bind fun m23 => L13_11 (.ptr 0 0) (.ptr 1 0) (.ptr 2 0) (.ptr (newAt none m' .resv).1 0) (.int .i64 0) m23 (K13_11 (finK cfg.P f13.results.toList))) = some (MV.av ⟨(min rr n : Nat), (min cc n : Nat), l2⟩, m2.set 1 (cM ⟨(min rr n : Nat), (min cc n : Nat), l2⟩)) := by
      rw [mld0 q0, Option.bind_some, hrr, min_int, Option.bind_some, fld1, Option.bind_some, mld1 q0, Option.bind_some, hcc, min_int, Option.bind_some, bldM01, Option.bind_some, new_m, new_r]
      rw [mstA (x := zM) get_last, Option.bind_some]
      rw [show (m' ++ [cM zM]).set m'.length (cM ⟨(min rr n : Nat), (min cc n : Nat), nilL⟩) = m' ++ [cM ⟨(min rr n : Nat), (min cc n : Nat), nilL⟩] by simp]
      refine w5.trans ?_
      rw [K13_11_x2, mldA w2, Option.bind_some, mstA w1, Option.bind_some, mldA (by rw [List.getElem?_set_self (idx_lt w1)])]
      rfl
    have hlo2 : LOk 3 l2 := rowAt_lok w3 (by rw [w4]; intro r hr; exact hlo.fr r (cutE_mem hr)) (by rw [w4]; intro r hr; exact hlo.ok r (cutE_mem hr))
    have hlen3 : l2.es.length ≤ 4000 := by
      rw [w4, cutE_length (by omega) (by rw [hlen2]; exact Nat.mul_le_mul_right _ (by omega))]
      have : min rr n * min cc n ≤ 60 * 60 := Nat.mul_le_mul (by omega) (by omega)
      omega
    have done2 : ∀ {R : Prop}, (AP cfg 13 [x.av, .int .i64 n] = some (MV.fr ⟨(min rr n : Nat), (min cc n : Nat), l2⟩).av) → ∃ y : MV, AP cfg 13 [x.av, .int .i64 n] = some y.av ∧ LOk 3 y.lv ∧ y.lv.es.length ≤ 4000 ∧ y.fr = y ∧ rightM y = true ∧ y.rows = min x.rows n ∧ y.cols = min x.cols n := by
      intro _ h
      refine ⟨_, h, hlo2.fr', hlen3, by simp only [MV.fr, rowAt_fr w3], right_of (r := min rr n) (c := min cc n) rfl rfl (by omega) (by omega) (by show l2.es.length = _; rw [w4, cutE_length (by omega) (by rw [hlen2]; exact Nat.mul_le_mul_right _ (by omega))]) (by show ∀ t ∈ l2.es, _; rw [w4]; intro r hr; exact hall r (cutE_mem hr)), ?_, ?_⟩
      · show ((min rr n : Nat) : Int) = _; rw [hrr]; omega
      · show ((min cc n : Nat) : Int) = _; rw [hcc]; omega
    have outc := out ⟨(min rr n : Nat), (min cc n : Nat), l2⟩ (m2.set 1 (cM ⟨(min rr n : Nat), (min cc n : Nat), l2⟩))
    rw [K13_3_x0, mldA q2, Option.bind_some, pcM, e1, Option.map_some, Option.bind_some, not_b, Option.bind_some, hb, Bool.not_true, ifA_false, fld0, Option.bind_some, mld0 q0, Option.bind_some, binA_leq, Option.bind_some, ifA_dec] at outc
    by_cases d1 : x.rows ≤ n
    · rw [if_pos d1, fld1, Option.bind_some, mld1 q0, Option.bind_some, binA_leq, Option.bind_some, ifA_dec] at outl outc
      by_cases d2 : x.cols ≤ n
      · rw [if_pos d2] at outl
        exact ⟨_, outl fin, hlo.fr', hlen, by simp only [MV.fr, rowAt_fr q3], hrf.trans hb, by show x.rows = _; omega, by show x.cols = _; omega⟩
      · rw [if_neg d2] at outc
        exact done2 (R := True) (outc fin2)
    · rw [if_neg d1] at outc
      exact done2 (R := True) (outc fin2)
theorem maxI (a b : Int) : maxA false (.int .i64 a) (.int .i64 b) = some (.int .i64 (min a b)) := by
  show some (AV.int .i64 (if b < a then b else a)) = _
  by_cases h : b < a
  · rw [if_pos h, Int.min_eq_right (by omega)]
  · rw [if_neg h, Int.min_eq_left (by omega)]
/-- Transpose of a right square matrix. -/
theorem V37r {x : MV} {k n : Nat} (hx : IsM k x) (hk1 : 1 ≤ k) (hk : k < 2 ^ 36) (hbx : rightM x = true) (hxn : x.rows = n) (hxc : x.cols = n) :
    ∃ z, AP cfg 37 [x.av] = some (.tup [z.av, .int .i64 0]) ∧ IsM k z ∧ rightM z = true ∧ z.rows = n ∧ z.cols = n ∧ ∀ i j, i < n → j < n → qAt z (i * n + j) = qAt x (j * n + i) := by
  have e20 := V20 hx.ok (by omega) (by have := hx.len; omega)
  have gx : ∀ e : Mem, (cM x :: e)[0]? = some (cM x) := fun _ => rfl
  have hcc := right_cells hbx
  obtain ⟨n6, hlx⟩ : n ≤ 60 ∧ x.lv.es.length = n * n := by
    obtain ⟨r, c, a1, a2, a3, _, a5⟩ := right_len hbx
    obtain rfl : r = n := by omega
    obtain rfl : c = r := by omega
    exact ⟨a3, a5⟩
  obtain ⟨z, f1, f2, f3, f4, f5, f6, f7, f8⟩ := fillP (P := fun r => rightR r = true) (g := 79) (cs := [vM x]) (rows := n) (cols := n) (k := k) (Q := fun i j => qAt x (j * n + i)) ⟨rfl, rfl⟩ (csz1 (frz_vM hx.fr)) n6 n6
      (fun i j hi hj => by
        have hlt : j * n + i < x.lv.es.length := by rw [hlx]; exact cell_lt60 hj hi
        refine ⟨copyR x.lv.es[j * n + i], V79 hx.ok hxc (by omega) (by omega) (by omega) hlt, ?_, copyR_ok (hx.ok.ok _ (List.getElem_mem hlt)), copyR_fr _, ?_⟩
        · rw [qAt_get hlt, copyR_q]
        · rw [copyR_right]; exact hcc _ (List.getElem_mem hlt))
  have start : AC cfg 37 [x.av] [] = AC cfg 37 [x.av] [] := rfl
  conv at start => rhs; rw [T37, box_mv, Option.bind_some]
  simp only [new_m, new_r, List.length_nil, List.nil_append, List.length_cons, List.cons_append, Nat.zero_add, Nat.reduceAdd] at start
  rw [mldA (gx _), Option.bind_some, pcM, hx.fr, e20, Option.map_some, Option.bind_some, not_b, Option.bind_some] at start
  rw [hbx, Bool.not_true, ifA_false, fld1, Option.bind_some, mld1 (gx _), Option.bind_some, fld0, Option.bind_some, mld0 (gx _), Option.bind_some, pcFill1 _ _ _ _ (frz_ptrM (gx _)), hx.fr, hxn, hxc, f1, Option.map_some, Option.bind_some, mstA (x := zM) rfl, Option.bind_some] at start
  simp only [List.set_cons_zero, List.set_cons_succ] at start
  rw [mldA (x := z) rfl, Option.bind_some] at start
  have hnn : n * n ≤ 60 * 60 := Nat.mul_le_mul n6 n6
  refine ⟨z, retM2 start f7, ⟨f6, f7, by omega⟩, right_of f2 f3 n6 n6 f4 f8, f2, f3, fun i j hi hj => ?_⟩
  obtain ⟨e1, e2⟩ := row_col (i := i) hj
  rw [f5 _ (cell_lt60 hi hj), e1, e2]
theorem sumN_sumR (f : Nat → Rat) : ∀ n, sumN f n = sumR n f
  | 0 => rfl
  | n + 1 => by rw [sumN, sumR, sumN_sumR f n]
theorem mulQ_at {x y : MV} {c d i j : Nat} (hj : j < d) : mulQ x y c d (i * d + j) = mulM c (mxOf x c) (mxOf y d) i j := by
  obtain ⟨e1, e2⟩ := row_col (i := i) hj
  unfold mulQ dotQ
  rw [e1, e2, sumN_sumR]; rfl
theorem kk6 : kk 3 6 = 13653 := by decide
theorem kk6' : kk 421 6 = 1725781 := by decide
section
variable {m : Mem} {d : Option Nat} {g : Nat}
theorem p5M (x : MV) : pcall (AP cfg5) d m g [x.av] = (AP cfg5 g [x.fr.av]).map fun v => (v, m) := pcall1 (fz_mv x)
theorem p5MI (x : MV) (a : Int) : pcall (AP cfg5) d m g [x.av, .int .i64 a] = (AP cfg5 g [x.fr.av, .int .i64 a]).map fun v => (v, m) := pcall2 (fz_mv x) (fz_int _ a)
theorem p5MM (x y : MV) : pcall (AP cfg5) d m g [x.av, y.av] = (AP cfg5 g [x.fr.av, y.fr.av]).map fun v => (v, m) := pcall2 (fz_mv x) (fz_mv y)
theorem p5RR (r s : RV) : pcall (AP cfg5) d m g [r.av, s.av] = (AP cfg5 g [r.fr.av, s.fr.av]).map fun v => (v, m) := pcall2 (fz_rv r) (fz_rv s)
theorem P26d : pcall (AP cfg5) d m 26 [] = some (.bool true, m) := by rw [pcall0, AP5 V26]; rfl
theorem new_q : newAt none m (.obj true [.bool false, .lst none true .full [], .lst none true .full []]) = (m.length, m ++ [cR zR]) := rfl
end
set_option maxHeartbeats 8000000 in
theorem MatrixDets_law {a b : MV} (ha : XM a.fr) (hb : XM b.fr) : ∃ m', AC cfg5 10 [a.av, b.av] [] = some (.bool true, m') := by
  obtain ⟨x, x1, x2, x3, x4, x5⟩ := V43 (n := 6) (by omega) ha (mv_frfr' a)
  obtain ⟨y, y1, y2, y3, y4, y5⟩ := V43 (n := 6) (by omega) hb (mv_frfr' b)
  have r21 := V21 (x := x) x2 (k := 3) (by omega) (by omega)
  have s21 := V21 (x := y) y2 (k := 3) (by omega) (by omega)
  have start : AC cfg5 10 [a.av, b.av] [] = AC cfg5 10 [a.av, b.av] [] := rfl
  conv at start => rhs; rw [T10, box_mv, Option.bind_some, box_mv, Option.bind_some]
  simp only [List.length_nil, List.nil_append, List.length_cons, List.cons_append, Nat.zero_add, Nat.reduceAdd] at start
  rw [mldA (x := a) rfl, Option.bind_some, p5MI, show ((6 : Int)) = ((6 : Nat) : Int) from rfl, AP5 x1, Option.map_some, Option.bind_some, mldA (x := b) rfl, Option.bind_some, p5MI, AP5 y1, Option.map_some, Option.bind_some, mstA (x := a) rfl, Option.bind_some] at start
  simp only [List.set_cons_zero, List.set_cons_succ] at start
  rw [mstA (x := b) rfl, Option.bind_some] at start
  simp only [List.set_cons_zero, List.set_cons_succ] at start
  rw [fld0, Option.bind_some, mld0 (x := x) rfl, Option.bind_some, fld0, Option.bind_some, mld0 (x := y) rfl, Option.bind_some, maxI, Option.bind_some, mldA (x := x) rfl, Option.bind_some, p5M, x4, AP5 r21, Option.map_some, Option.bind_some, not_b, Option.bind_some] at start
  cases hbx : rightM x with
  | false =>
    rw [hbx, Bool.not_false, ifA_true, P26d, Option.bind_some] at start
    exact ⟨_, start⟩
  | true =>
  rw [hbx, Bool.not_true, ifA_false, mldA (x := y) rfl, Option.bind_some, p5M, y4, AP5 s21, Option.map_some, Option.bind_some, not_b, Option.bind_some] at start
  cases hby : rightM y with
  | false =>
    rw [hby, Bool.not_false, ifA_true, P26d, Option.bind_some] at start
    exact ⟨_, start⟩
  | true =>
  obtain ⟨x6, x7⟩ := x5 hbx
  obtain ⟨y6, y7⟩ := y5 hby
  obtain ⟨r, r', hr, hr', _, _, hlx⟩ := right_len hbx
  obtain ⟨s, s', hs, hs', _, _, hly⟩ := right_len hby
  obtain rfl : r = r' := by omega
  obtain rfl : s = s' := by omega
  have hr6 : r ≤ 6 := by omega
  have hs6 : s ≤ 6 := by omega
  obtain ⟨n, hn⟩ : ∃ n, n = min r s := ⟨_, rfl⟩
  have hn6 : n ≤ 6 := by omega
  have hmn : min x.rows y.rows = (n : Int) := by rw [hr, hs]; omega
  obtain ⟨u, u1, u2, u3, u4, u5, u6, u7⟩ := V13r (x := x) (n := n) (by omega) x2 x4 hbx
  obtain ⟨v, v1, v2, v3, v4, v5, v6, v7⟩ := V13r (x := y) (n := n) (by omega) y2 y4 hby
  have u6 : u.rows = n := by rw [u6]; omega
  have u7 : u.cols = n := by rw [u7]; omega
  have v6 : v.rows = n := by rw [v6]; omega
  have v7 : v.cols = n := by rw [v7]; omega
  have iu : IsM 3 u := ⟨u2, u4, u3⟩
  have iv : IsM 3 v := ⟨v2, v4, v3⟩
  have un : u.cols.toNat = n := by rw [u7]; rfl
  have um : u.rows.toNat = n := by rw [u6]; rfl
  have vn : v.cols.toNat = n := by rw [v7]; rfl
  have k1 : kk 3 n ≤ 13653 := by rw [← kk6]; exact kk_mono 3 hn6
  have k2 : kk 421 n ≤ 1725781 := by rw [← kk6']; exact kk_mono 421 hn6
  have k3 : n * kk 3 n ≤ 6 * 13653 := Nat.mul_le_mul hn6 k1
  have k4 : n * kk 421 n ≤ 6 * 1725781 := Nat.mul_le_mul hn6 k2
  obtain ⟨w, e, w1, W, wr⟩ := V41 (K := 421) iu iv (by omega) (by omega) (by omega)
  have m1 : mulE u v = 0 := by unfold mulE; rw [if_pos ⟨u5, v5⟩, if_pos (by rw [u7, v6])]
  have wr := wr m1
  rw [m1, um, un, vn] at W
  have he : e = 0 := W.e
  subst he
  have hnn : n * n ≤ 60 * 60 := Nat.mul_le_mul (by omega) (by omega)
  have iw : IsM 421 w := ⟨W.ok, W.fr, by rw [W.len rfl]; omega⟩
  have w6 : w.rows = n := W.rows rfl
  have w7 : w.cols = n := W.cols rfl
  obtain ⟨t, t1, t2, t3, t4, t5, t6⟩ := V37r iu (by omega) (by omega) u5 u6 u7
  have f3 : 1 + n * kk 3 n < 2 ^ 36 ∧ kk 3 n < 2 ^ 36 := by constructor <;> omega
  have f4 : 1 + n * kk 421 n < 2 ^ 36 ∧ kk 421 n < 2 ^ 36 := by constructor <;> omega
  have fit : ∀ {z : MV} {k : Nat}, (1 + n * kk k n < 2 ^ 36 ∧ kk k n < 2 ^ 36) → z.rows = n → rightM z = true → ∀ n' : Nat, z.rows = n' → z.cols = n' → 1 + n' * kk k n' < 2 ^ 36 ∧ kk k n' < 2 ^ 36 := fun hk hz _ n' h1 _ => by
    have : n' = n := Int.ofNat_inj.1 (h1.symm.trans hz)
    rw [this]; exact hk
  obtain ⟨_, _, pu⟩ := detP iu (by omega) (by omega) (fit f3 u6)
  obtain ⟨_, _, pv⟩ := detP iv (by omega) (by omega) (fit f3 v6)
  obtain ⟨_, _, pw⟩ := detP iw (by omega) (by omega) (fit f4 w6)
  obtain ⟨_, _, pt⟩ := detP t2 (by omega) (by omega) (fit f3 t4)
  obtain ⟨X, ex, hX, PX⟩ := h47_ex pu
  obtain ⟨Y, ey, hY, PY⟩ := h47_ex pv
  obtain ⟨Z, ez, hZ, PZ⟩ := h47_ex pw
  obtain ⟨T, et, hT, PT⟩ := h47_ex pt
  obtain ⟨rfl, cX⟩ := PX.ok u5 n u6 u7
  obtain ⟨rfl, cY⟩ := PY.ok v5 n v6 v7
  obtain ⟨rfl, cZ⟩ := PZ.ok wr n w6 w7
  obtain ⟨rfl, cT⟩ := PT.ok t3 n t4 t5
  have bX := (det_bd iu (by omega) (by omega) u5 u6 u7 (by omega) (by omega) (by omega)).mono (k' := 20000000) (by omega)
  have bY := (det_bd iv (by omega) (by omega) v5 v6 v7 (by omega) (by omega) (by omega)).mono (k' := 20000000) (by omega)
  have bZ := (det_bd iw (by omega) (by omega) wr w6 w7 (by omega) (by omega) (by omega)).mono (k' := 40000000) (by omega)
  have bT := (det_bd t2 (by omega) (by omega) t3 t4 t5 (by omega) (by omega) (by omega)).mono (k' := 20000000) (by omega)
  have oX := cX.ok bX (by omega)
  have oY := cY.ok bY (by omega)
  have oZ := cZ.ok bZ (by omega)
  have oT := cT.ok bT (by omega)
  obtain ⟨S, s1, s2, s3⟩ := V29 oX oY (by omega) (by omega)
  have qX : X.q = det n (mxOf u n) := cX.q
  have qY : Y.q = det n (mxOf v n) := cY.q
  have qZ : Z.q = X.q * Y.q := by
    rw [qX, qY, cZ.q, ← det_mul]
    refine det_congr fun i j hi hj => ?_
    show qAt w (i * n + j) = _
    rw [W.q rfl _ (cell_lt60 hi hj), mulQ_at hj]
  have qT : T.q = X.q := by
    rw [cT.q, qX, ← det_tr n (mxOf u n)]
    exact det_congr fun i j hi hj => t6 i j hi hj
  have oS : ROk 40000000 S := s2.ok ((Bd_mul (oX.bd (by omega)) (oY.bd (by omega)) (by omega)).mono (by omega)) (by omega)
  have q1 := V23 oZ oS (by omega) (by omega)
  have q2 := V23 oT oX (by omega) (by omega)
  rw [s2.q, decide_eq_true qZ] at q1
  rw [decide_eq_true qT] at q2
  rw [hby, Bool.not_true, ifA_false, mldA (x := x) rfl, Option.bind_some, hmn, p5MI, x4, AP5 u1, Option.map_some, Option.bind_some, mldA (x := y) rfl, Option.bind_some, p5MI, y4, AP5 v1, Option.map_some, Option.bind_some, mstA (x := x) rfl, Option.bind_some] at start
  simp only [List.set_cons_zero, List.set_cons_succ] at start
  rw [mstA (x := y) rfl, Option.bind_some] at start
  simp only [List.set_cons_zero, List.set_cons_succ] at start
  rw [mldA (x := u) rfl, Option.bind_some, hX, Option.bind_some, ext0', Option.bind_some, ext1', Option.bind_some] at start
  simp only [new_q, new_r, List.length_nil, List.nil_append, List.length_cons, List.cons_append, Nat.zero_add, Nat.reduceAdd] at start
  rw [rstA (x := zR) rfl, Option.bind_some] at start
  simp only [List.set_cons_zero, List.set_cons_succ] at start
  rw [mldA (x := v) rfl, Option.bind_some, hY, Option.bind_some, ext0', Option.bind_some, ext1', Option.bind_some] at start
  simp only [new_q, new_r, List.length_nil, List.nil_append, List.length_cons, List.cons_append, Nat.zero_add, Nat.reduceAdd] at start
  rw [rstA (x := zR) rfl, Option.bind_some] at start
  simp only [List.set_cons_zero, List.set_cons_succ] at start
  rw [mldA (x := u) rfl, Option.bind_some, mldA (x := v) rfl, Option.bind_some, p5MM, u4, v4, AP5 w1, Option.map_some, Option.bind_some, ext0', Option.bind_some, ext1', Option.bind_some] at start
  simp only [new_m, new_r, List.length_nil, List.nil_append, List.length_cons, List.cons_append, Nat.zero_add, Nat.reduceAdd] at start
  rw [mstA (x := zM) rfl, Option.bind_some] at start
  simp only [List.set_cons_zero, List.set_cons_succ] at start
  rw [mldA (x := w) rfl, Option.bind_some, hZ, Option.bind_some, ext0', Option.bind_some, ext1', Option.bind_some] at start
  simp only [new_q, new_r, List.length_nil, List.nil_append, List.length_cons, List.cons_append, Nat.zero_add, Nat.reduceAdd] at start
  rw [rstA (x := zR) rfl, Option.bind_some] at start
  simp only [List.set_cons_zero, List.set_cons_succ] at start
  rw [mldA (x := u) rfl, Option.bind_some, p5M, u4, AP5 t1, Option.map_some, Option.bind_some, ext0', Option.bind_some, ext1', Option.bind_some] at start
  simp only [new_m, new_r, List.length_nil, List.nil_append, List.length_cons, List.cons_append, Nat.zero_add, Nat.reduceAdd] at start
  rw [mstA (x := zM) rfl, Option.bind_some] at start
  simp only [List.set_cons_zero, List.set_cons_succ] at start
  rw [mldA (x := t) rfl, Option.bind_some, hT, Option.bind_some, ext0', Option.bind_some, ext1', Option.bind_some] at start
  simp only [new_q, new_r, List.length_nil, List.nil_append, List.length_cons, List.cons_append, Nat.zero_add, Nat.reduceAdd] at start
  rw [rstA (x := zR) rfl, Option.bind_some] at start
  simp only [List.set_cons_zero, List.set_cons_succ] at start
  rw [show binA .other .eql (.int .i64 0) (.int .i64 0) = some (.bool true) from rfl, Option.bind_some, ifA_true, Option.bind_some, ifA_true, Option.bind_some, ifA_true] at start
  have gX : ([cM u, cM v, cR X, cR Y, cM w, cR Z, cM t, cR T] : Mem)[2]? = some (cR X) := rfl
  have gY : ([cM u, cM v, cR X, cR Y, cM w, cR Z, cM t, cR T] : Mem)[3]? = some (cR Y) := rfl
  have gZ : ([cM u, cM v, cR X, cR Y, cM w, cR Z, cM t, cR T] : Mem)[5]? = some (cR Z) := rfl
  have gT : ([cM u, cM v, cR X, cR Y, cM w, cR Z, cM t, cR T] : Mem)[7]? = some (cR T) := rfl
  rw [rldA gZ, Option.bind_some, rldA gX, Option.bind_some, rldA gY, Option.bind_some, p5RR, PX.fr, PY.fr, AP5 s1, Option.map_some, Option.bind_some, p5RR, PZ.fr, s3, AP5 q1, Option.map_some, Option.bind_some, ifA_true, rldA gT, Option.bind_some, rldA gX, Option.bind_some, p5RR, PT.fr, PX.fr, AP5 q2, Option.map_some, Option.bind_some, ifA_true, P26d, Option.bind_some] at start
  exact ⟨_, start⟩
end Go.Ab
