/- Fractions in memory: what the operations do. -/
import Derived.Test.YtlapgjmmlbnehaaAYtR0
set_option linter.unusedVariables false
set_option linter.unusedSimpArgs false
set_option maxRecDepth 100000
namespace Go.Ab

def cR (r : RV) : Option Ent := some (.obj true [.bool r.neg, r.num.av, r.den.av])
def nilV : NV := ⟨true, .full, []⟩
def zR : RV := ⟨false, nilV, nilV⟩
theorem box_rv (m : Mem) (r : RV) : boxA none (some 3) m r.av = some (.ptr m.length 0, m ++ [cR r]) := rfl
theorem new_z (m : Mem) : newAt none m (.obj true [.bool false, nilV.av, nilV.av]) = (m.length, m ++ [cR zR]) := rfl
theorem new_r (m : Mem) : newAt none m .resv = (m.length, m ++ [some .resv]) := rfl
theorem new_zs (m : Mem) (n : Nat) : newAt (some n) m (.obj true [.bool false, nilV.av, nilV.av]) = (n, m.set n (cR zR)) := rfl
theorem new_rs (m : Mem) (n : Nat) : newAt (some n) m .resv = (n, m.set n (some .resv)) := rfl
theorem fld0 (n : Nat) : fieldAddrA 0 (.ptr n 0) = some (.ptr n 0) := rfl
theorem fld1 (n : Nat) : fieldAddrA 1 (.ptr n 0) = some (.ptr n 1) := rfl
theorem fld2 (n : Nat) : fieldAddrA 2 (.ptr n 0) = some (.ptr n 2) := rfl
theorem res1 (m : Mem) : reserve m 1 = m ++ [some .resv] := rfl
theorem res2 (m : Mem) : reserve m 2 = m ++ [some .resv, some .resv] := rfl
theorem ld0neg {M : Mem} {r : RV} : loadA none (cR r :: M) (.ptr 0 0) = some (.bool r.neg) := rfl
theorem ld0num {M : Mem} {r : RV} : loadA none (cR r :: M) (.ptr 0 1) = some (r.num.av) := rfl
theorem ld0den {M : Mem} {r : RV} : loadA none (cR r :: M) (.ptr 0 2) = some (r.den.av) := rfl
theorem ld0all {M : Mem} {r : RV} : loadA (some 3) (cR r :: M) (.ptr 0 0) = some r.av := rfl
theorem st0all {M : Mem} {r r' : RV} : storeA (some 3) (cR r :: M) (.ptr 0 0) r'.av = some (cR r' :: M) := rfl
theorem st0neg {M : Mem} {r : RV} {b : Bool} : storeA none (cR r :: M) (.ptr 0 0) (.bool b) = some (cR ⟨b, r.num, r.den⟩ :: M) := rfl
theorem ld1neg {c0 : Option Ent} {M : Mem} {r : RV} : loadA none (c0 :: cR r :: M) (.ptr 1 0) = some (.bool r.neg) := rfl
theorem ld1num {c0 : Option Ent} {M : Mem} {r : RV} : loadA none (c0 :: cR r :: M) (.ptr 1 1) = some (r.num.av) := rfl
theorem ld1den {c0 : Option Ent} {M : Mem} {r : RV} : loadA none (c0 :: cR r :: M) (.ptr 1 2) = some (r.den.av) := rfl
theorem ld1all {c0 : Option Ent} {M : Mem} {r : RV} : loadA (some 3) (c0 :: cR r :: M) (.ptr 1 0) = some r.av := rfl
theorem st1all {c0 : Option Ent} {M : Mem} {r r' : RV} : storeA (some 3) (c0 :: cR r :: M) (.ptr 1 0) r'.av = some (c0 :: cR r' :: M) := rfl
theorem st1neg {c0 : Option Ent} {M : Mem} {r : RV} {b : Bool} : storeA none (c0 :: cR r :: M) (.ptr 1 0) (.bool b) = some (c0 :: cR ⟨b, r.num, r.den⟩ :: M) := rfl
theorem ld2neg {c0 c1 : Option Ent} {M : Mem} {r : RV} : loadA none (c0 :: c1 :: cR r :: M) (.ptr 2 0) = some (.bool r.neg) := rfl
theorem ld2num {c0 c1 : Option Ent} {M : Mem} {r : RV} : loadA none (c0 :: c1 :: cR r :: M) (.ptr 2 1) = some (r.num.av) := rfl
theorem ld2den {c0 c1 : Option Ent} {M : Mem} {r : RV} : loadA none (c0 :: c1 :: cR r :: M) (.ptr 2 2) = some (r.den.av) := rfl
theorem ld2all {c0 c1 : Option Ent} {M : Mem} {r : RV} : loadA (some 3) (c0 :: c1 :: cR r :: M) (.ptr 2 0) = some r.av := rfl
theorem st2all {c0 c1 : Option Ent} {M : Mem} {r r' : RV} : storeA (some 3) (c0 :: c1 :: cR r :: M) (.ptr 2 0) r'.av = some (c0 :: c1 :: cR r' :: M) := rfl
theorem st2neg {c0 c1 : Option Ent} {M : Mem} {r : RV} {b : Bool} : storeA none (c0 :: c1 :: cR r :: M) (.ptr 2 0) (.bool b) = some (c0 :: c1 :: cR ⟨b, r.num, r.den⟩ :: M) := rfl
theorem ld3neg {c0 c1 c2 : Option Ent} {M : Mem} {r : RV} : loadA none (c0 :: c1 :: c2 :: cR r :: M) (.ptr 3 0) = some (.bool r.neg) := rfl
theorem ld3num {c0 c1 c2 : Option Ent} {M : Mem} {r : RV} : loadA none (c0 :: c1 :: c2 :: cR r :: M) (.ptr 3 1) = some (r.num.av) := rfl
theorem ld3den {c0 c1 c2 : Option Ent} {M : Mem} {r : RV} : loadA none (c0 :: c1 :: c2 :: cR r :: M) (.ptr 3 2) = some (r.den.av) := rfl
theorem ld3all {c0 c1 c2 : Option Ent} {M : Mem} {r : RV} : loadA (some 3) (c0 :: c1 :: c2 :: cR r :: M) (.ptr 3 0) = some r.av := rfl
theorem st3all {c0 c1 c2 : Option Ent} {M : Mem} {r r' : RV} : storeA (some 3) (c0 :: c1 :: c2 :: cR r :: M) (.ptr 3 0) r'.av = some (c0 :: c1 :: c2 :: cR r' :: M) := rfl
theorem st3neg {c0 c1 c2 : Option Ent} {M : Mem} {r : RV} {b : Bool} : storeA none (c0 :: c1 :: c2 :: cR r :: M) (.ptr 3 0) (.bool b) = some (c0 :: c1 :: c2 :: cR ⟨b, r.num, r.den⟩ :: M) := rfl
theorem ld4neg {c0 c1 c2 c3 : Option Ent} {M : Mem} {r : RV} : loadA none (c0 :: c1 :: c2 :: c3 :: cR r :: M) (.ptr 4 0) = some (.bool r.neg) := rfl
theorem ld4num {c0 c1 c2 c3 : Option Ent} {M : Mem} {r : RV} : loadA none (c0 :: c1 :: c2 :: c3 :: cR r :: M) (.ptr 4 1) = some (r.num.av) := rfl
theorem ld4den {c0 c1 c2 c3 : Option Ent} {M : Mem} {r : RV} : loadA none (c0 :: c1 :: c2 :: c3 :: cR r :: M) (.ptr 4 2) = some (r.den.av) := rfl
theorem ld4all {c0 c1 c2 c3 : Option Ent} {M : Mem} {r : RV} : loadA (some 3) (c0 :: c1 :: c2 :: c3 :: cR r :: M) (.ptr 4 0) = some r.av := rfl
theorem st4all {c0 c1 c2 c3 : Option Ent} {M : Mem} {r r' : RV} : storeA (some 3) (c0 :: c1 :: c2 :: c3 :: cR r :: M) (.ptr 4 0) r'.av = some (c0 :: c1 :: c2 :: c3 :: cR r' :: M) := rfl
theorem st4neg {c0 c1 c2 c3 : Option Ent} {M : Mem} {r : RV} {b : Bool} : storeA none (c0 :: c1 :: c2 :: c3 :: cR r :: M) (.ptr 4 0) (.bool b) = some (c0 :: c1 :: c2 :: c3 :: cR ⟨b, r.num, r.den⟩ :: M) := rfl

theorem ex0 (a : AV) (l : List AV) : extractA (.tup (a :: l)) 0 = some a := rfl
theorem ex1 (a b : AV) (l : List AV) : extractA (.tup (a :: b :: l)) 1 = some b := rfl
theorem ex2 (a b c : AV) (l : List AV) : extractA (.tup (a :: b :: c :: l)) 2 = some c := rfl
theorem bld0 : buildA (.agg [.bool false, nilV.av, nilV.av]) [] = some zR.av := rfl
theorem bld2 (x : NV) : buildA (.agg [.bool false, nilV.av, nilV.av]) [(2, none, x.av)] = some (RV.av ⟨false, nilV, x⟩) := rfl
theorem bld12 (x y : NV) : buildA (.agg [.bool false, nilV.av, nilV.av]) [(1, none, x.av), (2, none, y.av)] = some (RV.av ⟨false, x, y⟩) := rfl
theorem bld012 (b : Bool) (x y : NV) : buildA (.agg [.bool false, nilV.av, nilV.av]) [(0, none, .bool b), (1, none, x.av), (2, none, y.av)] = some (RV.av ⟨b, x, y⟩) := rfl
theorem nil_av : AV.lst none true .full [] = nilV.av := rfl
theorem not_b (b : Bool) : unA .not (.bool b) = some (.bool (!b)) := rfl
theorem bl_neq (a b : Bool) : binA .bl .neq (.bool a) (.bool b) = some (.bool (a != b)) := rfl
theorem bl_eql (a b : Bool) : binA .bl .eql (.bool a) (.bool b) = some (.bool (a == b)) := rfl
section
variable {cp : Nat → List AV → Option AV} {d : Option Nat} {m : Mem} {g : Nat}
theorem pcN (x : NV) : pcall cp d m g [x.av] = (cp g [x.fr.av]).map fun v => (v, m) := pcall1 (fz_nv x)
theorem pcI (k : IntKind) (n : Int) : pcall cp d m g [.int k n] = (cp g [.int k n]).map fun v => (v, m) := pcall1 (fz_int k n)
theorem pcNN (x y : NV) : pcall cp d m g [x.av, y.av] = (cp g [x.fr.av, y.fr.av]).map fun v => (v, m) := pcall2 (fz_nv x) (fz_nv y)
theorem pcBNN (b : Bool) (x y : NV) : pcall cp d m g [.bool b, x.av, y.av] = (cp g [.bool b, x.fr.av, y.fr.av]).map fun v => (v, m) := pcall3 (fz_bool b) (fz_nv x) (fz_nv y)
theorem pcR (r : RV) : pcall cp d m g [r.av] = (cp g [r.fr.av]).map fun v => (v, m) := pcall1 (fz_rv r)
theorem pcRR (r s : RV) : pcall cp d m g [r.av, s.av] = (cp g [r.fr.av, s.fr.av]).map fun v => (v, m) := pcall2 (fz_rv r) (fz_rv s)
theorem pc0 : pcall cp d m g [] = (cp g []).map fun v => (v, m) := pcall0
end
theorem frz_rv (m : Mem) (r : RV) : frz m 8 r.av = some (r.fr.av, []) := by
  have e : frz m 8 r.av = (mapF (frz m 7) [.bool r.neg, r.num.av, r.den.av]).map fun r => (.agg r.1, r.2) := rfl
  rw [e]
  simp [mapF, fza_bool r.neg m 6, fza_nv r.num m 6, fza_nv r.den m 6, RV.fr, RV.av]
theorem fz_tupR2 (r : RV) {b b' : AV} (hb : ∀ m k, frz m (k + 1) b = some (b', [])) : Fz (.tup [r.av, b]) (.tup [r.fr.av, b']) := by
  intro m
  show (mapF (frz m 8) [r.av, b]).map _ = _
  simp [mapF, frz_rv, hb m 7]
end Go.Ab
