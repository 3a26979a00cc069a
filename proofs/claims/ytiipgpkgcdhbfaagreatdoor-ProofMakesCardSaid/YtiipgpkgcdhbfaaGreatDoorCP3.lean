/- What the interpreter does, function by function. -/
import Derived.Test.YtiipgpkgcdhbfaaGreatDoorCP2
import Derived.Test.YtiipgpkgcdhbfaaGreatDoorCP1
set_option maxRecDepth 100000
set_option linter.unusedVariables false
set_option linter.unusedSimpArgs false
set_option linter.unusedSectionVars false
namespace Go.Ab
noncomputable section
open Go.Proofs.Tryz
def Lu (m:af):St:=⟨(bA (bw (aJ []))),m⟩
def Dn (x4:AV) (m:af):St:=⟨(aO (x4::bA (aX (aO (aG []))))),m⟩
def GY (x0 di bT dN:AV) (m:af) (K:KT):OM:=bX 18 (b6 (c2 (c2 (aB f18)))) 4 (x0::aX (aO (aJ (di::bT::dN::bA [])))) m K
def Lv (x0 x5 x6 x7 di bT dN:AV) (m:af):St:=⟨(x0::aO (x5::x6::x7::aO (aJ (aG (di::bT::dN::bA []))))),m⟩
def Hz (x4:AV) (m:af):St:=⟨(aO (x4::bA (aX (aO (aG []))))),m⟩
def GZ (x0 x5 x6 x7 di bT dN b7 b9 cB:AV) (m:af) (K:KT):OM:=bX 18 (b6 (l9 (l9 (p7 (aB f18))))) 8 (x0::aO (x5::x6::x7::aO (aJ (aG (di::bT::dN::aO (b7::b9::cB::bw (aX (aG [])))))))) m K
abbrev qdO (K:KT):KT:=bF 18 (c2 (c2 (c2 (aB f18)))) K
abbrev qdP (K:KT):KT:=bu 0 (qdO K)
abbrev KH (K:KT):KT:=(qdP K)
abbrev qdS (K:KT):KT:=bF 18 (lE (np (c2 (aB f18)))) (nY 18 (b6 (c2 (c2 (aB f18)))) 4 K)
abbrev qdT (K:KT):KT:=bu 1 (qdS K)
abbrev qdU (K:KT):KT:=bF 18 (lE (A4 (np (c2 (aB f18))))) (qdT K)
abbrev qdV (K:KT):KT:=bu 2 (qdU K)
abbrev F9 (K:KT):KT:=(qdV K)
theorem T18 (a0 a1:AV) (m:af):AC ae 18 [a0,a1] m=(aK false a1).bind fun v1=>(aK false a0).bind fun v2=>(ag .other .neq v1 v2).bind fun v3=>aw v3 (some ((.bool false),m)) ((aK false a1).bind fun v4=>GY a0 a1 v4 (.int .i64 0) m (KH (aE ae.P f18.results.toList))):=
(bj ae 18 [a0,a1] m (fn:=f18) (c:=aB f18) qjw rfl).trans (by kernel_rfl)
theorem Ru (x0 di bT dN:AV) (m:af) (K:KT):GY x0 di bT dN m K=(ag .other .lss dN bT).bind fun v1=>aw v1 ((aF none di dN).bind fun v2=>(ai none m v2).bind fun v3=>(aK false v3).bind fun v4=>GZ x0 dN v3 (.int .i64 0) di bT dN v3 v4 (.int .i64 0) m (F9 K)) (K (.exit 0) (Lu m)):=
(bW (bP _) _ _ _).trans (by kernel_rfl)
theorem Rv (x0 x5 x6 x7 di bT dN b7 b9 cB:AV) (m:af) (K:KT):GZ x0 x5 x6 x7 di bT dN b7 b9 cB m K=(ag .other .lss cB b9).bind fun v1=>aw v1 ((aF none b7 cB).bind fun v2=>(ai none m v2).bind fun v3=>(ag .other .lss v3 (.int .i64 0)).bind fun v4=>aw v4 (K .ret (Hz (.bool false) m)) ((ag .other .gtr v3 (.int .i64 1000)).bind fun v5=>aw v5 (K .ret (Hz (.bool false) m)) ((ag .other .add x7 v3).bind fun v6=>(ag .other .add cB (.int .i64 1)).bind fun v7=>GZ x0 x5 x6 v6 di bT dN b7 b9 v7 m K))) (K (.exit 2) (Lv x0 x5 x6 x7 di bT dN m)):=
(bW (bP _) _ _ _).trans (by kernel_rfl)
theorem qdR (m:af):KH (aE ae.P f18.results.toList) (.exit 0) (Lu  m)=some ((.bool true),m):=by kernel_rfl
theorem qdQ (x4:AV) (m:af):KH (aE ae.P f18.results.toList) .ret (Dn x4 m)=some (x4,m):=by kernel_rfl
theorem qdX (x0 x5 x6 x7 di bT dN:AV) (m:af) (K:KT):F9 K (.exit 2) (Lv x0 x5 x6 x7 di bT dN m)=(aK false x6).bind fun v1=>(aF none x0 x5).bind fun v2=>(ai none m v2).bind fun v3=>(ag .other .neq v1 v3).bind fun v4=>aw v4 (K .ret (Dn (.bool false) m)) ((ag .other .eql x7 (.int .i64 0)).bind fun v5=>aw v5 (K .ret (Dn (.bool false) m)) ((ag .other .add dN (.int .i64 1)).bind fun v6=>GY x0 di bT v6 m K)):=by kernel_rfl
theorem qdW (x4:AV) (m:af) (K:KT):F9 K .ret (Hz x4 m)=K .ret (Dn x4 m):=by kernel_rfl
def Sb (m:af):St:=⟨(bw (aX (aJ []))),m⟩
def Su (x4:AV) (m:af):St:=⟨(aO (x4::bw (aO (aG [])))),m⟩
def GM (x0 x1 aN aV:AV) (m:af) (K:KT):OM:=bX 144 (b6 (c2 (c2 (aB f144)))) 4 (x0::x1::aX (aJ (aN::aV::aX (aO [])))) m K
abbrev qcu (K:KT):KT:=bF 144 (c2 (c2 (c2 (aB f144)))) K
abbrev qcv (K:KT):KT:=bu 0 (qcu K)
abbrev FX (K:KT):KT:=(qcv K)
theorem qgH (a0 a1:AV) (m:af):AC ae 144 [a0,a1] m=(aK false a0).bind fun v1=>(aK false a1).bind fun v2=>(ag .other .neq v1 v2).bind fun v3=>aw v3 (some ((.bool false),m)) ((aK false a0).bind fun v4=>GM a0 a1 v4 (.int .i64 0) m (FX (aE ae.P f144.results.toList))):=
(bj ae 144 [a0,a1] m (fn:=f144) (c:=aB f144) qi9 rfl).trans (by kernel_rfl)
theorem Ra (x0 x1 aN aV:AV) (m:af) (K:KT):GM x0 x1 aN aV m K=(ag .other .lss aV aN).bind fun v1=>aw v1 ((aF none x0 aV).bind fun v2=>(ai none m v2).bind fun v3=>(aF none x1 aV).bind fun v4=>(ai none m v4).bind fun v5=>(ag .other .neq v3 v5).bind fun v6=>aw v6 (K .ret (Su (.bool false) m)) ((ag .other .add aV (.int .i64 1)).bind fun v7=>GM x0 x1 aN v7 m K)) (K (.exit 0) (Sb m)):=
(bW (bP _) _ _ _).trans (by kernel_rfl)
theorem qcx (m:af):FX (aE ae.P f144.results.toList) (.exit 0) (Sb  m)=some ((.bool true),m):=by kernel_rfl
theorem qcw (x4:AV) (m:af):FX (aE ae.P f144.results.toList) .ret (Su x4 m)=some (x4,m):=by kernel_rfl
def Sa (m:af):St:=⟨(bw (aG [])),m⟩
def Ss (x2:AV) (m:af):St:=⟨(aJ (x2::aX (aO (aJ [])))),m⟩
def GL (x0 x5 x6 x7:AV) (m:af) (K:KT):OM:=bX 143 (b6 (c2 (aB f143))) 2 (x0::aO (x5::x6::x7::aX (aG []))) m K
abbrev qcq (K:KT):KT:=bF 143 (c2 (c2 (aB f143))) K
abbrev qcr (K:KT):KT:=bu 0 (qcq K)
abbrev FW (K:KT):KT:=(qcr K)
theorem qgG (a0:AV) (m:af):AC ae 143 [a0] m=(aK false a0).bind fun v1=>GL a0 a0 v1 (.int .i64 0) m (FW (aE ae.P f143.results.toList)):=
(bj ae 143 [a0] m (fn:=f143) (c:=aB f143) qi8 rfl).trans (by kernel_rfl)
theorem Q9 (x0 x5 x6 x7:AV) (m:af) (K:KT):GL x0 x5 x6 x7 m K=(ag .other .lss x7 x6).bind fun v1=>aw v1 ((aF none x5 x7).bind fun v2=>(ai none m v2).bind fun v3=>(aF none x0 (.int .i64 0)).bind fun v4=>(ai none m v4).bind fun v5=>(ag .other .neq v3 v5).bind fun v6=>aw v6 (K .ret (Ss (.bool false) m)) ((ag .other .add x7 (.int .i64 1)).bind fun v7=>GL x0 x5 x6 v7 m K)) (K (.exit 0) (Sa m)):=
(bW (bP _) _ _ _).trans (by kernel_rfl)
theorem qct (m:af):FW (aE ae.P f143.results.toList) (.exit 0) (Sa  m)=some ((.bool true),m):=by kernel_rfl
theorem qcs (x2:AV) (m:af):FW (aE ae.P f143.results.toList) .ret (Ss x2 m)=some (x2,m):=by kernel_rfl
theorem T31 (a0 a1:AV) (m:af):AC ae 31 [a0,a1] m=(fU (.agg [aq,aq]) [(0,none,a0)]).bind fun v1=>(cS none (some 2) m v1).bind fun r2=>(AC ae 91 [r2.1,(.int .i64 0),a1] r2.2).bind fun r3=>(iB r2.1).bind fun v4=>(aP 1 v4).bind fun v5=>(ai none r3.2 v5).bind fun v6=>some (v6,r3.2):=
(bj ae 31 [a0,a1] m (fn:=f31) (c:=aB f31) qjN rfl).trans (by kernel_rfl)
def LY (x0 x1 x2 x7 x8 x9 aH:AV) (m:af):St:=⟨(x0::x1::x2::aO (x7::x8::x9::aH::bp (bA (bw (aO (aG [])))))),m⟩
def AA (x0 x1 x2 x7 x8 x9 aH aY:AV) (m:af) (K:KT):OM:=bX 91 (b6 (lE (p7 (aB f91)))) 7 (x0::x1::x2::aO (x7::x8::x9::aH::aY::bp (bA (bw (aO []))))) m K
def LU (x0 x7:AV) (m:af):St:=⟨(x0::aO (aJ (x7::bp (bA (bw (aX [])))))),m⟩
def C7 (x0 x1 x2 x7 x8 aN:AV) (m:af) (K:KT):OM:=bX 91 (tO (bm (DQ (c2 (c2 (aB f91)))))) 14 (x0::x1::x2::aO (x7::x8::aJ (aG (aN::bp (bA (bw (aJ (aG [])))))))) m K
def LX (x0 x7:AV) (m:af):St:=⟨(x0::aO (aJ (x7::bp (bA (bw (aX [])))))),m⟩
def Sx (x6:AV) (m:af):St:=⟨(aO (aJ (x6::bp (bA (bw (aX (aG []))))))),m⟩
def uI (x0 x7 Fw Fx Aa:AV) (m:af) (K:KT):OM:=bX 91 (b6 (c2 (c2 (c2 (aB f91))))) 18 (x0::aO (aJ (x7::bp (bw (aX (aO (Fw::Fx::Aa::bw (aX (aG []))))))))) m K
abbrev qfD (K:KT):KT:=bF 91 (c2 (c2 (c2 (aB f91)))) K
abbrev qfE (K:KT):KT:=bF 91 (bm (np (c2 (aB f91)))) (qfD K)
abbrev qfF (K:KT):KT:=bu 0 (qfE K)
abbrev Gp (K:KT):KT:=(qfF K)
abbrev qfz (K:KT):KT:=bF 91 (bm (aB f91)) K
abbrev qfA (K:KT):KT:=bu 4 (qfz K)
abbrev tC (K:KT):KT:=(qfA K)
abbrev qfw (K:KT):KT:=bF 91 (c2 (c2 (c2 (aB f91)))) K
abbrev qfx (K:KT):KT:=bu 2 (qfw K)
abbrev CH (K:KT):KT:=(qfx K)
theorem T91 (a0 a1 a2:AV) (m:af):AC ae 91 [a0,a1,a2] m=(aF none a2 (.int .i64 0)).bind fun v1=>(ai none m v1).bind fun v2=>(fU (.agg [(.int .i64 0),aq,(.int .i64 0)]) [(0,none,(.int .i64 (-1))),(2,none,v2)]).bind fun v3=>(aM (some 3) (az none m (.obj true [(.int .i64 0),aq,(.int .i64 0)])).2 (.ptr (az none m .resv).1 0) v3).bind fun m4=>(aC (AP ae) none m4 143 [a2]).bind fun r5=>(jn .not r5.1).bind fun v6=>aw v6 ((aK false a2).bind fun v7=>(iB a0).bind fun v8=>(aP 0 v8).bind fun v9=>(ai none r5.2 v9).bind fun v10=>(aF none v10 a1).bind fun v11=>(ai none r5.2 v11).bind fun v12=>(ag .other .quo v7 v12).bind fun bh=>(n5 none a2 none (some bh) none).bind fun bg=>AA a0 a1 a2 (.ptr (az none m .resv).1 0) bh bg (.bool true) (.int .i64 1) r5.2 (Gp (aE ae.P f91.results.toList))) ((iB a0).bind fun bo=>(aP 1 bo).bind fun bL=>(ai none r5.2 bL).bind fun bD=>(aK false bD).bind fun dQ=>uI a0 (.ptr (az none m .resv).1 0) bD dQ (.int .i64 0) r5.2 (tC (aE ae.P f91.results.toList))):=
(bj ae 91 [a0,a1,a2] m (fn:=f91) (c:=aB f91) qkr rfl).trans (by kernel_rfl)
theorem KX (x0 x1 x2 x7 x8 x9 aH aY:AV) (m:af) (K:KT):AA x0 x1 x2 x7 x8 x9 aH aY m K=(iB x0).bind fun v1=>(aP 0 v1).bind fun v2=>(ai none m v2).bind fun v3=>(aF none v3 x1).bind fun v4=>(ai none m v4).bind fun v5=>(ag .other .lss aY v5).bind fun v6=>aw v6 (aw aH ((ag .other .mul aY x8).bind fun v7=>(ag .other .add aY (.int .i64 1)).bind fun v8=>(ag .other .mul v8 x8).bind fun v9=>(n5 none x2 (some v7) (some v9) none).bind fun v10=>(aC (AP ae) none m 144 [v10,x9]).bind fun jE=>(ag .other .add aY (.int .i64 1)).bind fun v12=>AA x0 x1 x2 x7 x8 x9 jE.1 v12 jE.2 K) ((ag .other .add aY (.int .i64 1)).bind fun bh=>AA x0 x1 x2 x7 x8 x9 (.bool false) bh m K)) (K (.exit 0) (LY x0 x1 x2 x7 x8 x9 aH m)):=
(bW (bP _) _ _ _).trans (by kernel_rfl)
theorem RZ (x0 x1 x2 x7 x8 aN:AV) (m:af) (K:KT):C7 x0 x1 x2 x7 x8 aN m K=(iB x0).bind fun v1=>(aP 0 v1).bind fun v2=>(ai none m v2).bind fun v3=>(aF none v3 x1).bind fun v4=>(ai none m v4).bind fun v5=>(ag .other .lss aN v5).bind fun v6=>aw v6 ((aP 1 x7).bind fun v7=>(ai none m v7).bind fun v8=>(ag .other .add x1 (.int .i64 1)).bind fun v9=>(ag .other .mul aN x8).bind fun v10=>(ag .other .add aN (.int .i64 1)).bind fun v11=>(ag .other .mul v11 x8).bind fun v12=>(n5 none x2 (some v10) (some v12) none).bind fun bh=>(AC ae 91 [x0,v9,bh] m).bind fun jP=>pj ((ai none jP.2 v7).bind (fun v=>some (v,jP.2))=some (v8,jP.2)) ((dH none [jP.1]).bind fun bo=>(ck none false 3 none 8 jP.2 v8 bo).bind fun fJ=>(aP 1 x7).bind fun bD=>(aM none fJ.2 bD fJ.1).bind fun m18=>(ag .other .add aN (.int .i64 1)).bind fun c8=>C7 x0 x1 x2 x7 x8 c8 m18 K)) (K (.exit 2) (LU x0 x7 m)):=
(bW (bP _) _ _ _).trans (by kernel_rfl)
theorem R0 (x0 x7 Fw Fx Aa:AV) (m:af) (K:KT):uI x0 x7 Fw Fx Aa m K=(ag .other .lss Aa Fx).bind fun v1=>aw v1 ((aF (some 3) Fw Aa).bind fun v2=>(ai (some 3) m v2).bind fun v3=>(aM (some 3) (az none m (.obj true [(.int .i64 0),aq,(.int .i64 0)])).2 (.ptr (az none m .resv).1 0) v3).bind fun m4=>(ai (some 3) m4 x7).bind fun v5=>(ai (some 3) m4 (.ptr (az none m .resv).1 0)).bind fun v6=>(aC (AP ae) none m4 142 [v5,v6]).bind fun r7=>aw r7.1 (K .ret (Sx Aa r7.2)) ((ag .other .add Aa (.int .i64 1)).bind fun v8=>uI x0 x7 Fw Fx v8 r7.2 K)) (K (.exit 4) (LX x0 x7 m)):=
(bW (bP _) _ _ _).trans (by kernel_rfl)
theorem qfG (x0 x1 x2 x7 x8 x9 aH:AV) (m:af):Gp (aE ae.P f91.results.toList) (.exit 0) (LY x0 x1 x2 x7 x8 x9 aH m)=aw aH ((ag .other .add x1 (.int .i64 1)).bind fun v1=>(AC ae 91 [x0,v1,x9] m).bind fun r2=>some (r2.1,r2.2)) ((fU (.agg [(.int .i64 0),aq,(.int .i64 0)]) [(0,none,x1)]).bind fun v3=>(aM (some 3) m x7 v3).bind fun m4=>C7 x0 x1 x2 x7 x8 (.int .i64 0) m4 (CH (aE ae.P f91.results.toList))):=by kernel_rfl
theorem qfC (x0 x7:AV) (m:af):tC (aE ae.P f91.results.toList) (.exit 4) (LX x0 x7 m)=(iB x0).bind fun v1=>(aP 1 v1).bind fun v2=>(ai none (cQ m 1) v2).bind fun v3=>(ai (some 3) (cQ m 1) x7).bind fun v4=>(dH (some 3) [v4]).bind fun v5=>(ck (some m.length) false 146 (some 3) 40 (cQ m 1) v3 v5).bind fun r6=>(iB x0).bind fun v7=>(aP 1 v7).bind fun v8=>(aM none r6.2 v8 r6.1).bind fun m9=>(iB x0).bind fun v10=>(aP 1 v10).bind fun v11=>(ai none m9 v11).bind fun v12=>(aK false v12).bind fun bh=>(ag .other .sub bh (.int .i64 1)).bind fun bg=>some (bg,m9):=by kernel_rfl
theorem qfB (x6:AV) (m:af):tC (aE ae.P f91.results.toList) .ret (Sx x6 m)=some (x6,m):=by kernel_rfl
theorem qfy (x0 x7:AV) (m:af):CH (aE ae.P f91.results.toList) (.exit 2) (LU x0 x7 m)=(iB x0).bind fun v1=>(aP 1 v1).bind fun v2=>(ai none m v2).bind fun v3=>(aK false v3).bind fun v4=>uI x0 x7 v3 v4 (.int .i64 0) m (tC (aE ae.P f91.results.toList)):=by kernel_rfl
end
end Go.Ab
namespace Go.Ab
noncomputable section
open Go.Proofs.Tryz
theorem L8 (a0 a1:AV) (m:af):AC ae 41 [a0,a1] m=(AC ae 104 [a0,a1,(.fn 106 [])] m).bind fun r1=>(aZ r1.1 0).bind fun v2=>(aZ r1.1 1).bind fun v3=>some ((.tup [v2,v3]),r1.2):=
(bj ae 41 [a0,a1] m (fn:=f41) (c:=aB f41) qjR rfl).trans (by kernel_rfl)
def Sj (x7:AV) (m:af):St:=⟨(aO (aJ (aG (x7::bp (aO (aG [])))))),m⟩
def G3 (x0 x6 x7 b7 b9 cB:AV) (m:af) (K:KT):OM:=bX 43 (b6 (bm (c2 (aB f43)))) 8 (x0::aO (aG (x6::x7::aX (aO (aJ (b7::b9::cB::bA (bw (aO [])))))))) m K
def Ly (x0 x6 x7 aH b7 b9 cB:AV) (m:af):St:=⟨(x0::aO (aG (x6::x7::aJ (aH::aX (aJ (aG (b7::b9::cB::bA (bw (aO []))))))))),m⟩
def CX (x0 x6 x7 aH b7 b9 cB ng rR qv:AV) (m:af) (K:KT):OM:=bX 43 (b6 (lE (A4 (np (bm (aB f43)))))) 13 (x0::aO (aG (x6::x7::aJ (aH::aX (aJ (aG (b7::b9::cB::bw (aX (aO (aJ (aG (ng::rR::qv::bw (aJ []))))))))))))) m K
abbrev qee (K:KT):KT:=bF 43 (bm (c2 (c2 (aB f43)))) K
abbrev qef (K:KT):KT:=bu 0 (qee K)
abbrev CE (K:KT):KT:=(qef K)
abbrev qd9 (K:KT):KT:=bF 43 (lE (np (bm (aB f43)))) (nY 43 (b6 (bm (c2 (aB f43)))) 8 K)
abbrev qea (K:KT):KT:=bu 1 (qd9 K)
abbrev qeb (K:KT):KT:=bF 43 (bm (tO (b6 (bm (c2 (aB f43)))))) (qea K)
abbrev qec (K:KT):KT:=bu 2 (qeb K)
abbrev CD (K:KT):KT:=(qec K)
theorem T43 (a0 a1:AV) (m:af):AC ae 43 [a0,a1] m=(AC ae 80 [a0] m).bind fun r1=>aw r1.1 (some ((.tup [aq,(.int .i64 4)]),r1.2)) ((AC ae 81 [a0,a1] r1.2).bind fun r2=>(jn .not r2.1).bind fun v3=>aw v3 (some ((.tup [aq,(.int .i64 1)]),r2.2)) ((AC ae 65 [a0,a1] (az none r2.2 (.mp (.int .i64) [])).2).bind fun r4=>(aK false r4.1).bind fun v5=>G3 a0 (.mref (az none r2.2 .resv).1) aq r4.1 v5 (.int .i64 0) r4.2 (CE (aE ae.P f43.results.toList)))):=
(bj ae 43 [a0,a1] m (fn:=f43) (c:=aB f43) qjS rfl).trans (by kernel_rfl)
theorem RA (x0 x6 x7 b7 b9 cB:AV) (m:af) (K:KT):G3 x0 x6 x7 b7 b9 cB m K=(ag .other .lss cB b9).bind fun v1=>aw v1 ((aF none b7 cB).bind fun v2=>(ai none m v2).bind fun v3=>(kU (.int .i64) m x6 v3 cB).bind fun m4=>(iB x0).bind fun v5=>(aP 1 v5).bind fun v6=>(ai none (cQ m4 1) v6).bind fun v7=>(aF (some 3) v7 v3).bind fun v8=>(aP 0 v8).bind fun v9=>(ai none (cQ m4 1) v9).bind fun v10=>(iB x0).bind fun v11=>(aP 1 v11).bind fun v12=>(ai none (cQ m4 1) v12).bind fun bh=>(aF (some 3) bh v3).bind fun bg=>(aP 2 bg).bind fun bo=>(ai none (cQ m4 1) bo).bind fun bL=>(fU (.agg [(.int .i64 0),aq,(.int .i64 0)]) [(0,none,v10),(2,none,bL)]).bind fun bD=>(aM (some 3) (az (some m4.length) (cQ m4 1) (.obj true [(.int .i64 0),aq,(.int .i64 0)])).2 (.ptr (az (some m4.length) (cQ m4 1) .resv).1 0) bD).bind fun m18=>(iB x0).bind fun c8=>(aP 1 c8).bind fun v20=>(ai none m18 v20).bind fun v21=>(aF (some 3) v21 v3).bind fun v22=>(aP 1 v22).bind fun v23=>(ai none m18 v23).bind fun v24=>(aK false v24).bind fun v25=>CX x0 x6 x7 (.ptr (az (some m4.length) (cQ m4 1) .resv).1 0) b7 b9 cB v24 v25 (.int .i64 0) m18 (CD K)) (K (.exit 0) (Sj x7 m)):=
(bW (bP _) _ _ _).trans (by kernel_rfl)
theorem Rz (x0 x6 x7 aH b7 b9 cB ng rR qv:AV) (m:af) (K:KT):CX x0 x6 x7 aH b7 b9 cB ng rR qv m K=(ag .other .lss qv rR).bind fun v1=>aw v1 ((aF none ng qv).bind fun v2=>(ai none m v2).bind fun v3=>(aP 1 aH).bind fun v4=>(ai none m v4).bind fun v5=>(po (.int .i64) (.int .i64 0) m x6 v3).bind fun q6=>(dH none [q6.1]).bind fun v7=>(ck none false 3 none 8 m v5 v7).bind fun r8=>(aP 1 aH).bind fun v9=>(aM none r8.2 v9 r8.1).bind fun m10=>(ag .other .add qv (.int .i64 1)).bind fun v11=>CX x0 x6 x7 aH b7 b9 cB ng rR v11 m10 K) (K (.exit 2) (Ly x0 x6 x7 aH b7 b9 cB m)):=
(bW (bP _) _ _ _).trans (by kernel_rfl)
theorem qeg (x7:AV) (m:af):CE (aE ae.P f43.results.toList) (.exit 0) (Sj x7 m)=some ((.tup [x7,(.int .i64 0)]),m):=by kernel_rfl
theorem qed (x0 x6 x7 aH b7 b9 cB:AV) (m:af) (K:KT):CD K (.exit 2) (Ly x0 x6 x7 aH b7 b9 cB m)=(ai (some 3) m aH).bind fun v1=>(dH (some 3) [v1]).bind fun v2=>(ck none false 74 (some 3) 40 m x7 v2).bind fun r3=>(ag .other .add cB (.int .i64 1)).bind fun v4=>G3 x0 x6 r3.1 b7 b9 v4 r3.2 K:=by kernel_rfl
theorem T44 (a0 a1:AV) (m:af):AC ae 44 [a0,a1] m=(cS none none m a0).bind fun r1=>(cS none none r1.2 a1).bind fun r2=>(ai none r2.2 r1.1).bind fun v3=>(AC ae 80 [v3] r2.2).bind fun r4=>aw r4.1 (some ((.tup [(.int .i64 0),(.int .i64 4)]),r4.2)) ((ai none r4.2 r1.1).bind fun v5=>(iB v5).bind fun v6=>(aP 0 v6).bind fun v7=>(ai none r4.2 v7).bind fun v8=>(ai none r4.2 r2.1).bind fun v9=>(aC (AP ae) (some r4.2.length) r4.2 107 [v8,v9]).bind fun ij=>(jn .not ij.1).bind fun v11=>aw v11 (some ((.tup [(.int .i64 0),(.int .i64 1)]),ij.2)) ((ai none ij.2 r1.1).bind fun v12=>(AC ae 84 [v12,(.fn 108 [r2.1,r1.1])] ij.2).bind fun gh=>(aZ gh.1 0).bind fun bg=>(aZ gh.1 1).bind fun bo=>some ((.tup [bg,bo]),gh.2))):=
(bj ae 44 [a0,a1] m (fn:=f44) (c:=aB f44) qjT rfl).trans (by kernel_rfl)
def Hi (x8:AV) (m:af):St:=⟨(aX (x8::bA (aX []))),m⟩
def we (x0 x2 x8 jv b7 b9:AV) (m:af) (K:KT):OM:=bX 104 (b6 (bm (aB f104))) 7 (x0::aG (x2::aO (aG (x8::aX (aO (jv::b7::b9::bw (aX (aG [])))))))) m K
abbrev qaJ (K:KT):KT:=bF 104 (bm (c2 (aB f104))) K
abbrev qaK (K:KT):KT:=bu 0 (qaJ K)
abbrev vW (K:KT):KT:=(qaK K)
theorem L4 (a0 a1 a2:AV) (m:af):AC ae 104 [a0,a1,a2] m=(AC ae 80 [a0] m).bind fun r1=>aw r1.1 (some ((.tup [aq,(.int .i64 4)]),r1.2)) ((AC ae 81 [a0,a1] r1.2).bind fun r2=>(jn .not r2.1).bind fun v3=>aw v3 (some ((.tup [aq,(.int .i64 1)]),r2.2)) ((AC ae 65 [a0,a1] r2.2).bind fun r4=>(aK false r4.1).bind fun v5=>we a0 a2 aq r4.1 v5 (.int .i64 0) r4.2 (vW (aE ae.P f104.results.toList)))):=
(bj ae 104 [a0,a1,a2] m (fn:=f104) (c:=aB f104) qiB rfl).trans (by kernel_rfl)
theorem QK (x0 x2 x8 jv b7 b9:AV) (m:af) (K:KT):we x0 x2 x8 jv b7 b9 m K=(ag .other .lss b9 b7).bind fun v1=>aw v1 ((aF none jv b9).bind fun v2=>(ai none m v2).bind fun v3=>(iB x0).bind fun v4=>(aP 1 v4).bind fun v5=>(ai none m v5).bind fun v6=>(aF (some 3) v6 v3).bind fun v7=>(ai (some 3) m v7).bind fun v8=>(lH x2).bind fun g9=>j7 ae 104 (AP ae) (AC ae) none g9.1 ([v8]++g9.2) m fun v10 m11=>(aZ v10 0).bind fun v12=>(aZ v10 1).bind fun bh=>aw bh ((dH none [v12]).bind fun bg=>(ck none true 3 none 8 m11 x8 bg).bind fun mD=>(ag .other .add b9 (.int .i64 1)).bind fun bL=>we x0 x2 mD.1 jv b7 bL mD.2 K) ((ag .other .add b9 (.int .i64 1)).bind fun bD=>we x0 x2 x8 jv b7 bD m11 K)) (K (.exit 0) (Hi x8 m)):=
(bW (bP _) _ _ _).trans (by kernel_rfl)
theorem qaL (x8:AV) (m:af):vW (aE ae.P f104.results.toList) (.exit 0) (Hi x8 m)=(zQ [x8] m).bind fun r1=>(yx [x8] r1.2).bind fun r2=>some ((.tup [r2.1,(.int .i64 0)]),r2.2):=by kernel_rfl
end
end Go.Ab
namespace Go.Ab
open Go.Proofs Go.Proofs.Tryz
theorem TH {z1 z2:Bool} {o1 o2:Own} {k1 k2:List Int} (hl:k1.length=k2.length) (gC:k1.length<=100000) (m:af):∀ j i:Nat,i+j=k1.length ->
  GM (IA z1 o1 k1) (IA z2 o2 k2) (.int .i64 k1.length) (.int .i64 i) m (FX (aE ae.P f144.results.toList))=some (.bool (decide (k1.drop i=k2.drop i)),m)
 | 0,i,h=>by
  rw[Ra,bc,aa,aA,aj (by omega),jq (by omega),jq (by omega),qcx];rfl
 | j+1,i,h=>by
  have hi:i < k1.length:=by omega
  have hi2:i < k2.length:=by omega
  have ih:=TH (z1:=z1) (z2:=z2) (o1:=o1) (o2:=o2) hl gC m j (i+1) (by omega);rw[Ra,bc,aa,aA,an (by omega),jY hi,aa,gy,aa,jY hi2,aa,gy,aa,gZ,aa,aA,kr hi,kr hi2]
  by_cases he:k1[i]=k2[i]
  ·rw[aj (by simpa using he),cr (by omega),aa,ih];congr 3;exact jL.2 (by rw[he];exact ⟨fun e=>by rw[e],fun e=>(List.cons.inj e).2⟩)
  ·rw[an he,qcw];congr 3;exact (cT (fun e=>he (List.cons.inj e).1)).symm
theorem qqH (z1 z2:Bool) (o1 o2:Own) (k1 k2:List Int) (gC:k1.length<=100000):AP ae 144 [IA z1 o1 k1,IA z2 o2 k2]=some (.bool (decide (k1=k2))):=by
 refine iw (m:=[]) (v:=.bool (decide (k1=k2))) (l:=[]) ?_ rfl rfl;rw[qgH,iI,aa,iI,aa,gZ,aa,aA]
 by_cases hl:k1.length=k2.length
 ·rw[aj (by omega),aa,show (AV.int .i64 0)=.int .i64 ((0:Nat):Int) from rfl,TH hl gC [] k1.length 0 (by omega),jI,jI]
 ·rw[an (by omega)];congr 3;exact (cT (fun e=>hl (by rw[e]))).symm
theorem qoO (z1 z2:Bool) (o1 o2:Own) (k1 k2:List Int) (gC:k1.length<=100000) (m:af):aC (AP ae) none m 144 [IA z1 o1 k1,IA z2 o2 k2]=some (.bool (decide (k1=k2)),m):=by
 rw[fe (mc z1 o1 k1) (mc z2 o2 k2),qqH z1 z2 _ _ k1 k2 gC];rfl
theorem qaw (z:Bool) (o:Own) (k0:Int) (ks:List Int) (hl:(k0::ks).length<=1000) (m:af):∀ j i:Nat,i+j=(k0::ks).length ->
  GL (IA z o (k0::ks)) (IA z o (k0::ks)) (.int .i64 (k0::ks).length) (.int .i64 i) m (FW (aE ae.P f143.results.toList))=some (.bool (((k0::ks).drop i).all fun k=>k == k0),m)
 | 0,i,h=>by
  rw[Q9,bc,aa,aA,aj (by omega),jq (by omega),qct];rfl
 | j+1,i,h=>by
  have hi:i < (k0::ks).length:=by omega
  rw[Q9,bc,aa,aA,an (by omega),jY hi,aa,gy,aa,EJ (by simp),aa,gy,aa,gZ,aa,aA,kr hi,oq]
  by_cases he:(k0::ks)[i]=k0
  ·rw[aj (by simpa using he),cr (by omega),aa,qaw z o k0 ks hl m j (i+1) (by omega),show ((k0::ks)[i] == k0)=true by simpa using he,iN]
  ·rw[an (by simpa using he),qcs,show ((k0::ks)[i] == k0)=false by simpa using he,lY]
theorem qqG (z:Bool) (o:Own) (ks:List Int) (hne:ks≠[]) (hl:ks.length<=1000):AP ae 143 [IA z o ks]=some (.bool (ks.all fun k=>k == ks.headD 0)):=by
 obtain ⟨k0,ks,rfl⟩:=List.exists_cons_of_ne_nil hne;refine iw (m:=[]) (v:=.bool ((k0::ks).all fun k=>k == k0)) (l:=[]) ?_ rfl rfl;rw[qgG,iI,aa,show (AV.int .i64 0)=.int .i64 ((0:Nat):Int) from rfl,qaw z o k0 ks hl [] (k0::ks).length 0 (by omega),jI]
theorem qoN (z:Bool) (o:Own) (ks:List Int) (hne:ks≠[]) (hl:ks.length<=1000) (m:af):aC (AP ae) none m 143 [IA z o ks]=some (.bool (ks.all fun k=>k == ks.headD 0),m):=by
 rw[cG (mc z o ks),qqG z _ ks hne hl];rfl
def qiA (cs:List Int):Nat->Nat:=fun v=>(cs.getD v 0).toNat
theorem XO (m:af) (k:Nat):∀ ds:List Int,dU (bB m (k+1)) (ds.map (AV.int .i64))=some (ds.map (AV.int .i64),[])
 | []=>rfl
 | d::ds=>by
  have:bB m (k+1) (AV.int .i64 d)=some (AV.int .i64 d,[]):=rfl;simp[dU,this,XO m k ds]
theorem YH:∀ ds:List Int,mC (ds.map (AV.int .i64))=true
 | []=>rfl
 | d::ds=>by
  have:pl (AV.int .i64 d)=true:=rfl;simp[mC,this,YH ds]
theorem qlH {m:af} {nm:Nat} {ds:List Int} (h:m.get nm=some (.obj false (ds.map (AV.int .i64)))):bB m j8 (.arr nm 0 ds.length none)=some (IA false .no ds,[nm]):=by
 have h1:((ds.map (AV.int .i64)).all dG)=true:=by simp[List.all_map,dG]
 have hg:m.obj? nm=some (false,ds.map (AV.int .i64)):=by rw[qm,h];rfl
 show (m.obj? nm).bind _=_;rw[hg];simp only[aa,Sh.size,cg,br,mI,aR,decide_true,nH,pB,bz,jI,kW (by simp:(ds.map (AV.int .i64)).length<=ds.length)];rw[XO];simp only[aa,h1,YH,pB,bz,me];rw[kW (by simp)]
theorem PR {m:af} {nm i:Nat} {ds:List Int} {y:Int} (h:m.get nm=some (.obj false (ds.map (AV.int .i64)))) (hi:i < ds.length):aM none m (.ptr nm i) (.int .i64 y)=some (m.set nm (some (.obj false ((ds.set i y).map (AV.int .i64))))):=by
 have hg:m.obj? nm=some (false,ds.map (AV.int .i64)):=by rw[qm,h];rfl
 have h1:i+1<=ds.length:=hi;simp only[aM,hg,aa,Sh.size,cg,h1,bz,cU,dG,AV.cells];congr 4;simp only[bJ,aL,aQ];rw[List.map_set,De];simp[hi,AI,List.map_drop]
structure Asn (ar:List Int) (i:Nat) (cs:List Int):Prop where
 len:cs.length=ar.length
 bd:∀ v,v < ar.length->0<=cs.getD v 0/\cs.getD v 0 < ar.getD v 0
 idx:qj ar 0 (qiA cs)=i
structure AL (n:Nat) (m0 m:af) (x:AV) (nms:List Nat) (css:List (List Int)):Prop where
 len:nms.length=css.length
 row:∀ k (h1:k < nms.length) (h2:k < css.length),m.get nms[k]=some (.obj false (css[k].map (AV.int .i64)))/\css[k].length=n
 nd:nms.Nodup
 lo:∀ a∈nms,m0.length<=a
 kp:m0.length<=m.length/\∀ k,k < m0.length->m.get k=m0.get k
 x:(x=aq/\nms=[])\/∃ t,x=.arr t 0 nms.length none/\0 < nms.length/\m.get t=some (.obj false (nms.map fun a=>.arr a 0 n none))/\m0.length<=t/\t∉nms
section
variable {m:af} {s:Nat} {F:List Nat} {most:Int} {l:List ND} {zs z:Bool} {os o:Own} {ar:List Int} {cs:List Int}
end
end Go.Ab
namespace Go.Ab
noncomputable section
open Go.Proofs.Tryz
theorem T66 (a0 a1:AV) (m:af):AC ae 66 [a0,a1] m=(aK false a0).bind fun v1=>(AC ae 125 [a0,v1,a1] m).bind fun r2=>some ((.tup []),r2.2):=
(bj ae 66 [a0,a1] m (fn:=f66) (c:=aB f66) qj8 rfl).trans (by kernel_rfl)
def R5 (x0 x1 x2 x6 x7:AV) (m:af):St:=⟨(x0::x1::x2::aJ (aG (x6::x7::bA (bw (aO (aJ (aG []))))))),m⟩
def CP (x0 x1 x2 x6 x7 x8:AV) (m:af) (K:KT):OM:=bX 125 (nM (c2 (aB f125))) 2 (x0::x1::x2::aJ (aG (x6::x7::x8::bA (bw (aO (aJ [])))))) m K
def R6 (m:af):St:=⟨(bA (bw (aX (aO (aJ (aG [])))))),m⟩
def wg (x0 x1 x2 x6:AV) (m:af) (K:KT):OM:=bX 125 (tO (c2 (c2 (aB f125)))) 7 (x0::x1::x2::aJ (aG (x6::bA (bw (aX []))))) m K
def R7 (x0 x1 x2 x6 x7:AV) (m:af):St:=⟨(x0::x1::x2::aJ (aG (x6::x7::bA (bw (aO (aJ (aG []))))))),m⟩
def GB (x0 x1 x2 x6 x7 x8:AV) (m:af) (K:KT):OM:=bX 125 (nM (H8 (bm (aB f125)))) 9 (x0::x1::x2::aJ (aG (x6::x7::x8::bA (bw (aO (aJ [])))))) m K
abbrev qbD (K:KT):KT:=bF 125 (c2 (c2 (c2 (aB f125)))) K
abbrev qbE (K:KT):KT:=bu 0 (qbD K)
abbrev FR (K:KT):KT:=(qbE K)
abbrev qbI (K:KT):KT:=bu 3 (nY 125 (tO (c2 (c2 (aB f125)))) 7 K)
abbrev qbJ (K:KT):KT:=bF 125 (MG (tO (c2 (c2 (aB f125))))) (qbI K)
abbrev qbK (K:KT):KT:=bu 4 (qbJ K)
abbrev Kl (K:KT):KT:=(qbK K)
abbrev qbG (K:KT):KT:=bu 2 K
abbrev xX (K:KT):KT:=(qbG K)
theorem qgt (a0 a1 a2:AV) (m:af):AC ae 125 [a0,a1,a2] m=CP a0 a1 a2 (.int .i64 20) (.int .i64 0) (.int .i64 20) m (FR (aE ae.P f125.results.toList)):=
(bj ae 125 [a0,a1,a2] m (fn:=f125) (c:=aB f125) qiS rfl).trans (by kernel_rfl)
theorem QU (x0 x1 x2 x6 x7 x8:AV) (m:af) (K:KT):CP x0 x1 x2 x6 x7 x8 m K=(ag .other .leq x8 x1).bind fun v1=>aw v1 ((AC ae 165 [x0,x7,x8,x2] m).bind fun r2=>(ag .other .add x8 x6).bind fun v3=>CP x0 x1 x2 x6 x8 v3 r2.2 K) (K (.exit 0) (R5 x0 x1 x2 x6 x7 m)):=
(bW (bP _) _ _ _).trans (by kernel_rfl)
theorem QV (x0 x1 x2 x6:AV) (m:af) (K:KT):wg x0 x1 x2 x6 m K=(ag .other .lss x6 x1).bind fun v1=>aw v1 ((ag .other .mul (.int .i64 2) x6).bind fun v2=>GB x0 x1 x2 x6 (.int .i64 0) v2 m (Kl K)) (K (.exit 2) (R6 m)):=
(bW (bP _) _ _ _).trans (by kernel_rfl)
theorem QW (x0 x1 x2 x6 x7 x8:AV) (m:af) (K:KT):GB x0 x1 x2 x6 x7 x8 m K=(ag .other .leq x8 x1).bind fun v1=>aw v1 ((ag .other .add x7 x6).bind fun v2=>(AC ae 166 [x0,x7,v2,x8,x2] m).bind fun r3=>(ag .other .mul (.int .i64 2) x6).bind fun v4=>(ag .other .add x8 v4).bind fun v5=>GB x0 x1 x2 x6 x8 v5 r3.2 K) (K (.exit 4) (R7 x0 x1 x2 x6 x7 m)):=
(bW (bP _) _ _ _).trans (by kernel_rfl)
theorem qbF (x0 x1 x2 x6 x7:AV) (m:af):FR (aE ae.P f125.results.toList) (.exit 0) (R5 x0 x1 x2 x6 x7 m)=(AC ae 165 [x0,x7,x1,x2] m).bind fun r1=>wg x0 x1 x2 x6 r1.2 (xX (aE ae.P f125.results.toList)):=by kernel_rfl
theorem qbL (x0 x1 x2 x6 x7:AV) (m:af) (K:KT):Kl K (.exit 4) (R7 x0 x1 x2 x6 x7 m)=(ag .other .add x7 x6).bind fun v1=>(ag .other .lss v1 x1).bind fun v2=>aw v2 ((AC ae 166 [x0,x7,v1,x1,x2] m).bind fun r3=>(ag .other .mul x6 (.int .i64 2)).bind fun v4=>wg x0 x1 x2 v4 r3.2 K) ((ag .other .mul x6 (.int .i64 2)).bind fun v5=>wg x0 x1 x2 v5 m K):=by kernel_rfl
theorem qbH (m:af):xX (aE ae.P f125.results.toList) (.exit 2) (R6  m)=some ((.tup []),m):=by kernel_rfl
def Sd (m:af):St:=⟨(bA (bw (aO (aG [])))),m⟩
def GO (x0 x1 x2 x3 x8:AV) (m:af) (K:KT):OM:=bX 165 (c1 (c1 (c2 (aB f165)))) 1 (x0::x1::x2::x3::aO (x8::bA (aX (aO [])))) m K
def Di (x0 x1 x2 x3 x8:AV) (m:af):St:=⟨(x0::x1::x2::x3::aO (x8::bA (aX (aO [])))),m⟩
def Ar (x0 x1 x2 x3 x8 x9:AV) (m:af) (K:KT):OM:=bX 165 (b6 (H8 (c2 (aB f165)))) 4 (x0::x1::x2::x3::aO (x8::x9::bA (aX (aJ (aG []))))) m K
abbrev qcF (K:KT):KT:=bu 0 K
abbrev FY (K:KT):KT:=(qcF K)
abbrev qcG (K:KT):KT:=bF 165 (l9 (c2 (aB f165))) (nY 165 (c1 (c1 (c2 (aB f165)))) 1 K)
abbrev qcH (K:KT):KT:=bu 1 (qcG K)
abbrev qcI (K:KT):KT:=bu 2 (qcH K)
abbrev Ku (K:KT):KT:=(qcI K)
theorem SG (a0 a1 a2 a3:AV) (m:af):AC ae 165 [a0,a1,a2,a3] m=(ag .other .add a1 (.int .i64 1)).bind fun v1=>GO a0 a1 a2 a3 v1 m (FY (aE ae.P f165.results.toList)):=
(bj ae 165 [a0,a1,a2,a3] m (fn:=f165) (c:=aB f165) qjn rfl).trans (by kernel_rfl)
theorem KR (x0 x1 x2 x3 x8:AV) (m:af) (K:KT):GO x0 x1 x2 x3 x8 m K=(ag .other .lss x8 x2).bind fun v1=>aw v1 (Ar x0 x1 x2 x3 x8 x8 m (Ku K)) (K (.exit 0) (Sd m)):=
(bW (bP _) _ _ _).trans (by kernel_rfl)
theorem Rf (x0 x1 x2 x3 x8 x9:AV) (m:af) (K:KT):Ar x0 x1 x2 x3 x8 x9 m K=(ag .other .gtr x9 x1).bind fun v1=>aw v1 ((aF none x0 x9).bind fun v2=>(ai none m v2).bind fun v3=>(ag .other .sub x9 (.int .i64 1)).bind fun v4=>(aF none x0 v4).bind fun v5=>(ai none m v5).bind fun v6=>(lH x3).bind fun g7=>j7 ae 165 (AP ae) (AC ae) none g7.1 ([v3,v6]++g7.2) m fun v8 m9=>(ag .other .lss v8 (.int .i64 0)).bind fun v10=>aw v10 ((ag .other .sub x9 (.int .i64 1)).bind fun v11=>(ag .other .sub x9 (.int .i64 1)).bind fun v12=>(aF none x0 v12).bind fun bh=>(ai none m9 bh).bind fun bg=>(aF none x0 x9).bind fun bo=>(ai none m9 bo).bind fun bL=>(aF none x0 x9).bind fun bD=>(aM none m9 bD bg).bind fun m18=>(aF none x0 v11).bind fun c8=>(aM none m18 c8 bL).bind fun m20=>(ag .other .sub x9 (.int .i64 1)).bind fun v21=>Ar x0 x1 x2 x3 x8 v21 m20 K) (K (.exit 2) (Di x0 x1 x2 x3 x8 m9))) (K (.exit 2) (Di x0 x1 x2 x3 x8 m)):=
(bW (bP _) _ _ _).trans (by kernel_rfl)
theorem QE (m:af):FY (aE ae.P f165.results.toList) (.exit 0) (Sd  m)=some ((.tup []),m):=by kernel_rfl
theorem qcJ (x0 x1 x2 x3 x8:AV) (m:af) (K:KT):Ku K (.exit 2) (Di x0 x1 x2 x3 x8 m)=(ag .other .add x8 (.int .i64 1)).bind fun v1=>GO x0 x1 x2 x3 v1 m K:=by kernel_rfl
def Lk (x0 x1 aH:AV) (m:af):St:=⟨(x0::x1::aX (aH::bp (bp (bp (bw (aG [])))))),m⟩
def wi (x0 x1 x4 aH aY:AV) (m:af) (K:KT):OM:=bX 166 (nM (DQ (aB f166))) 3 (x0::x1::aJ (x4::aO (aG (aH::aY::bp (bp (bp (bw []))))))) m K
def Sf (m:af):St:=⟨(bp (bp (bp (bw (aX (aO [])))))),m⟩
def GQ (x0 aH aV:AV) (m:af) (K:KT):OM:=bX 166 (b6 (lE (c2 (c1 (aB f166))))) 9 (x0::aX (aG (aH::aJ (aV::bp (bp (bp (aX (aO (aJ []))))))))) m K
def Lj (x0 x2 aW:AV) (m:af):St:=⟨(x0::aG (x2::aX (aJ (aG (aW::bp (bp (bp (aX (aO (aG [])))))))))),m⟩
def wh (x0 x2 x4 aW di:AV) (m:af) (K:KT):OM:=bX 166 (nM (DQ (c2 (aB f166)))) 15 (x0::aG (x2::aG (x4::aX (aG (aW::di::bp (bp (bp (aX (aO []))))))))) m K
def Se (m:af):St:=⟨(bp (bp (bp (bw (aX (aO [])))))),m⟩
def GP (x0 aW dN:AV) (m:af) (K:KT):OM:=bX 166 (b6 (lE (c2 (c1 (c2 (aB f166)))))) 21 (x0::aX (aO (aG (aW::aJ (dN::bp (bp (bp (aX (aJ []))))))))) m K
def Hq (x0 x1 x2 x3 x4 de gU iK:AV) (m:af):St:=⟨(x0::x1::x2::x3::x4::aX (aO (aG (de::gU::iK::bp (bp (bp (aO (aJ (aG []))))))))),m⟩
def ra (x0 x1 x2 x3 x4 de gU iK jv b7:AV) (m:af) (K:KT):OM:=bX 166 (nM (bm (c2 (c2 (aB f166))))) 33 (x0::x1::x2::x3::x4::aX (aO (aG (de::gU::iK::jv::b7::bp (bp (bp (aO (aG [])))))))) m K
abbrev qcV (K:KT):KT:=bF 166 (c2 (aB f166)) K
abbrev qcW (K:KT):KT:=bF 166 (lE (c2 (c1 (aB f166)))) (qcV K)
abbrev qcX (K:KT):KT:=bu 0 (qcW K)
abbrev Kx (K:KT):KT:=(qcX K)
abbrev qcK (K:KT):KT:=bF 166 (c2 (c2 (aB f166))) K
abbrev qcL (K:KT):KT:=bF 166 (lE (c2 (c1 (c2 (aB f166))))) (qcK K)
abbrev qcM (K:KT):KT:=bu 4 (qcL K)
abbrev Kv (K:KT):KT:=(qcM K)
abbrev qcS (K:KT):KT:=bF 166 (bm (bm (aB f166))) K
abbrev qcT (K:KT):KT:=bu 8 (qcS K)
abbrev vZ (K:KT):KT:=(qcT K)
abbrev qcZ (K:KT):KT:=bF 166 (c2 (aB f166)) K
abbrev qc0 (K:KT):KT:=bF 166 (bm (c1 (c2 (c1 (aB f166))))) (qcZ K)
abbrev qc1 (K:KT):KT:=bu 2 (qc0 K)
abbrev Ky (K:KT):KT:=(qc1 K)
abbrev qcO (K:KT):KT:=bF 166 (c2 (c2 (aB f166))) K
abbrev qcP (K:KT):KT:=bF 166 (bm (np (aB f166))) (qcO K)
abbrev qcQ (K:KT):KT:=bu 6 (qcP K)
abbrev Kw (K:KT):KT:=(qcQ K)
theorem qgT (a0 a1 a2 a3 a4:AV) (m:af):AC ae 166 [a0,a1,a2,a3,a4] m=(ag .other .sub a2 a1).bind fun v1=>(ag .other .eql v1 (.int .i64 1)).bind fun v2=>aw v2 (wi a0 a1 a4 a2 a3 m (Kx (aE ae.P f166.results.toList))) ((ag .other .sub a3 a2).bind fun v3=>(ag .other .eql v3 (.int .i64 1)).bind fun v4=>aw v4 (wh a0 a2 a4 a1 a2 m (Kv (aE ae.P f166.results.toList))) ((ag .other .add a1 a3).bind fun v5=>(bq .u64 v5).bind fun v6=>(ag .other .shr v6 (.int .u64 1)).bind fun v7=>(bq .i64 v7).bind fun v8=>(ag .other .add v8 a2).bind fun v9=>(ag .other .gtr a2 v8).bind fun v10=>aw v10 ((ag .other .sub v9 a3).bind fun v11=>(ag .other .sub v9 (.int .i64 1)).bind fun v12=>ra a0 a1 a2 a3 a4 v8 v9 v11 v8 v12 m (vZ (aE ae.P f166.results.toList))) ((ag .other .sub v9 (.int .i64 1)).bind fun bh=>ra a0 a1 a2 a3 a4 v8 v9 a1 a2 bh m (vZ (aE ae.P f166.results.toList))))):=
(bj ae 166 [a0,a1,a2,a3,a4] m (fn:=f166) (c:=aB f166) qjo rfl).trans (by kernel_rfl)
theorem Rj (x0 x1 x4 aH aY:AV) (m:af) (K:KT):wi x0 x1 x4 aH aY m K=(ag .other .lss aH aY).bind fun v1=>aw v1 ((ag .other .add aH aY).bind fun v2=>(bq .u64 v2).bind fun v3=>(ag .other .shr v3 (.int .u64 1)).bind fun v4=>(bq .i64 v4).bind fun v5=>(aF none x0 v5).bind fun v6=>(ai none m v6).bind fun v7=>(aF none x0 x1).bind fun v8=>(ai none m v8).bind fun v9=>(lH x4).bind fun g10=>j7 ae 166 (AP ae) (AC ae) none g10.1 ([v7,v9]++g10.2) m fun v11 m12=>(ag .other .lss v11 (.int .i64 0)).bind fun bh=>aw bh ((ag .other .add v5 (.int .i64 1)).bind fun bg=>wi x0 x1 x4 bg aY m12 K) (wi x0 x1 x4 aH v5 m12 K)) (K (.exit 0) (Lk x0 x1 aH m)):=
(bW (bP _) _ _ _).trans (by kernel_rfl)
theorem Rk (x0 aH aV:AV) (m:af) (K:KT):GQ x0 aH aV m K=(ag .other .sub aH (.int .i64 1)).bind fun v1=>(ag .other .lss aV v1).bind fun v2=>aw v2 ((ag .other .add aV (.int .i64 1)).bind fun v3=>(ag .other .add aV (.int .i64 1)).bind fun v4=>(aF none x0 v4).bind fun v5=>(ai none m v5).bind fun v6=>(aF none x0 aV).bind fun v7=>(ai none m v7).bind fun v8=>(aF none x0 aV).bind fun v9=>(aM none m v9 v6).bind fun m10=>(aF none x0 v3).bind fun v11=>(aM none m10 v11 v8).bind fun m12=>(ag .other .add aV (.int .i64 1)).bind fun bh=>GQ x0 aH bh m12 K) (K (.exit 2) (Sf m)):=
(bW (bP _) _ _ _).trans (by kernel_rfl)
theorem Rg (x0 x2 x4 aW di:AV) (m:af) (K:KT):wh x0 x2 x4 aW di m K=(ag .other .lss aW di).bind fun v1=>aw v1 ((ag .other .add aW di).bind fun v2=>(bq .u64 v2).bind fun v3=>(ag .other .shr v3 (.int .u64 1)).bind fun v4=>(bq .i64 v4).bind fun v5=>(aF none x0 x2).bind fun v6=>(ai none m v6).bind fun v7=>(aF none x0 v5).bind fun v8=>(ai none m v8).bind fun v9=>(lH x4).bind fun g10=>j7 ae 166 (AP ae) (AC ae) none g10.1 ([v7,v9]++g10.2) m fun v11 m12=>(ag .other .lss v11 (.int .i64 0)).bind fun bh=>(jn .not bh).bind fun bg=>aw bg ((ag .other .add v5 (.int .i64 1)).bind fun bo=>wh x0 x2 x4 bo di m12 K) (wh x0 x2 x4 aW v5 m12 K)) (K (.exit 4) (Lj x0 x2 aW m)):=
(bW (bP _) _ _ _).trans (by kernel_rfl)
theorem Rh (x0 aW dN:AV) (m:af) (K:KT):GP x0 aW dN m K=(ag .other .gtr dN aW).bind fun v1=>aw v1 ((ag .other .sub dN (.int .i64 1)).bind fun v2=>(ag .other .sub dN (.int .i64 1)).bind fun v3=>(aF none x0 v3).bind fun v4=>(ai none m v4).bind fun v5=>(aF none x0 dN).bind fun v6=>(ai none m v6).bind fun v7=>(aF none x0 dN).bind fun v8=>(aM none m v8 v5).bind fun m9=>(aF none x0 v2).bind fun v10=>(aM none m9 v10 v7).bind fun m11=>(ag .other .sub dN (.int .i64 1)).bind fun v12=>GP x0 aW v12 m11 K) (K (.exit 6) (Se m)):=
(bW (bP _) _ _ _).trans (by kernel_rfl)
theorem Ri (x0 x1 x2 x3 x4 de gU iK jv b7:AV) (m:af) (K:KT):ra x0 x1 x2 x3 x4 de gU iK jv b7 m K=(ag .other .lss iK jv).bind fun v1=>aw v1 ((ag .other .add iK jv).bind fun v2=>(bq .u64 v2).bind fun v3=>(ag .other .shr v3 (.int .u64 1)).bind fun v4=>(bq .i64 v4).bind fun v5=>(ag .other .sub b7 v5).bind fun v6=>(aF none x0 v6).bind fun v7=>(ai none m v7).bind fun v8=>(aF none x0 v5).bind fun v9=>(ai none m v9).bind fun v10=>(lH x4).bind fun g11=>j7 ae 166 (AP ae) (AC ae) none g11.1 ([v8,v10]++g11.2) m fun v12 m13=>(ag .other .lss v12 (.int .i64 0)).bind fun bg=>(jn .not bg).bind fun bo=>aw bo ((ag .other .add v5 (.int .i64 1)).bind fun bL=>ra x0 x1 x2 x3 x4 de gU bL jv b7 m13 K) (ra x0 x1 x2 x3 x4 de gU iK v5 b7 m13 K)) (K (.exit 8) (Hq x0 x1 x2 x3 x4 de gU iK m)):=
(bW (bP _) _ _ _).trans (by kernel_rfl)
theorem qcY (x0 x1 aH:AV) (m:af):Kx (aE ae.P f166.results.toList) (.exit 0) (Lk x0 x1 aH m)=GQ x0 aH x1 m (Ky (aE ae.P f166.results.toList)):=by kernel_rfl
theorem qcN (x0 x2 aW:AV) (m:af):Kv (aE ae.P f166.results.toList) (.exit 4) (Lj x0 x2 aW m)=GP x0 aW x2 m (Kw (aE ae.P f166.results.toList)):=by kernel_rfl
theorem qcU (x0 x1 x2 x3 x4 de gU iK:AV) (m:af):vZ (aE ae.P f166.results.toList) (.exit 8) (Hq x0 x1 x2 x3 x4 de gU iK m)=(ag .other .sub gU iK).bind fun v1=>(ag .other .lss iK x2).bind fun v2=>aw v2 ((ag .other .lss x2 v1).bind fun v3=>aw v3 ((AC ae 186 [x0,iK,x2,v1,x4] m).bind fun r4=>(ag .other .lss x1 iK).bind fun v5=>aw v5 ((ag .other .lss iK de).bind fun v6=>aw v6 ((AC ae 166 [x0,x1,iK,de,x4] r4.2).bind fun r7=>(ag .other .lss de v1).bind fun v8=>aw v8 ((ag .other .lss v1 x3).bind fun v9=>aw v9 ((AC ae 166 [x0,de,v1,x3,x4] r7.2).bind fun ij=>some ((.tup []),ij.2)) (some ((.tup []),r7.2))) (some ((.tup []),r7.2))) ((ag .other .lss de v1).bind fun v11=>aw v11 ((ag .other .lss v1 x3).bind fun v12=>aw v12 ((AC ae 166 [x0,de,v1,x3,x4] r4.2).bind fun gh=>some ((.tup []),gh.2)) (some ((.tup []),r4.2))) (some ((.tup []),r4.2)))) ((ag .other .lss de v1).bind fun bg=>aw bg ((ag .other .lss v1 x3).bind fun bo=>aw bo ((AC ae 166 [x0,de,v1,x3,x4] r4.2).bind fun fJ=>some ((.tup []),fJ.2)) (some ((.tup []),r4.2))) (some ((.tup []),r4.2)))) ((ag .other .lss x1 iK).bind fun bD=>aw bD ((ag .other .lss iK de).bind fun dQ=>aw dQ ((AC ae 166 [x0,x1,iK,de,x4] m).bind fun pq=>(ag .other .lss de v1).bind fun v20=>aw v20 ((ag .other .lss v1 x3).bind fun v21=>aw v21 ((AC ae 166 [x0,de,v1,x3,x4] pq.2).bind fun rK=>some ((.tup []),rK.2)) (some ((.tup []),pq.2))) (some ((.tup []),pq.2))) ((ag .other .lss de v1).bind fun v23=>aw v23 ((ag .other .lss v1 x3).bind fun v24=>aw v24 ((AC ae 166 [x0,de,v1,x3,x4] m).bind fun mY=>some ((.tup []),mY.2)) (some ((.tup []),m))) (some ((.tup []),m)))) ((ag .other .lss de v1).bind fun v26=>aw v26 ((ag .other .lss v1 x3).bind fun jt=>aw jt ((AC ae 166 [x0,de,v1,x3,x4] m).bind fun E5=>some ((.tup []),E5.2)) (some ((.tup []),m))) (some ((.tup []),m))))) ((ag .other .lss x1 iK).bind fun jS=>aw jS ((ag .other .lss iK de).bind fun v30=>aw v30 ((AC ae 166 [x0,x1,iK,de,x4] m).bind fun s9=>(ag .other .lss de v1).bind fun lW=>aw lW ((ag .other .lss v1 x3).bind fun oV=>aw oV ((AC ae 166 [x0,de,v1,x3,x4] s9.2).bind fun uv=>some ((.tup []),uv.2)) (some ((.tup []),s9.2))) (some ((.tup []),s9.2))) ((ag .other .lss de v1).bind fun mG=>aw mG ((ag .other .lss v1 x3).bind fun tj=>aw tj ((AC ae 166 [x0,de,v1,x3,x4] m).bind fun uw=>some ((.tup []),uw.2)) (some ((.tup []),m))) (some ((.tup []),m)))) ((ag .other .lss de v1).bind fun tm=>aw tm ((ag .other .lss v1 x3).bind fun uC=>aw uC ((AC ae 166 [x0,de,v1,x3,x4] m).bind fun r40=>some ((.tup []),r40.2)) (some ((.tup []),m))) (some ((.tup []),m)))):=by kernel_rfl
theorem qc2 (m:af):Ky (aE ae.P f166.results.toList) (.exit 2) (Sf  m)=some ((.tup []),m):=by kernel_rfl
theorem qcR (m:af):Kw (aE ae.P f166.results.toList) (.exit 6) (Se  m)=some ((.tup []),m):=by kernel_rfl
def Sg (x0 x2 x4 aH:AV) (m:af):St:=⟨(x0::aG (x2::aG (x4::aO (aG (aH::bA (aX (aO (aJ (aG []))))))))),m⟩
def CS (x0 x2 x4 aH aY:AV) (m:af) (K:KT):OM:=bX 186 (nM (c2 (aB f186))) 2 (x0::aG (x2::aG (x4::aO (aG (aH::aY::bA (aX (aO (aJ [])))))))) m K
abbrev qdp (K:KT):KT:=bF 186 (c2 (c2 (c2 (aB f186)))) K
abbrev qdq (K:KT):KT:=bu 0 (qdp K)
abbrev KB (K:KT):KT:=(qdq K)
theorem qg1 (a0 a1 a2 a3 a4:AV) (m:af):AC ae 186 [a0,a1,a2,a3,a4] m=(ag .other .sub a2 a1).bind fun v1=>(ag .other .sub a3 a2).bind fun v2=>CS a0 a2 a4 v1 v2 m (KB (aE ae.P f186.results.toList)):=
(bj ae 186 [a0,a1,a2,a3,a4] m (fn:=f186) (c:=aB f186) qjB rfl).trans (by kernel_rfl)
theorem KU (x0 x2 x4 aH aY:AV) (m:af) (K:KT):CS x0 x2 x4 aH aY m K=(ag .other .neq aH aY).bind fun v1=>aw v1 ((ag .other .gtr aH aY).bind fun v2=>aw v2 ((ag .other .sub x2 aH).bind fun v3=>(AC ae 201 [x0,v3,x2,aY,x4] m).bind fun r4=>(ag .other .sub aH aY).bind fun v5=>CS x0 x2 x4 v5 aY r4.2 K) ((ag .other .sub x2 aH).bind fun v6=>(ag .other .add x2 aY).bind fun v7=>(ag .other .sub v7 aH).bind fun v8=>(AC ae 201 [x0,v6,v8,aH,x4] m).bind fun r9=>(ag .other .sub aY aH).bind fun v10=>CS x0 x2 x4 aH v10 r9.2 K)) (K (.exit 0) (Sg x0 x2 x4 aH m)):=
(bW (bP _) _ _ _).trans (by kernel_rfl)
theorem qdr (x0 x2 x4 aH:AV) (m:af):KB (aE ae.P f186.results.toList) (.exit 0) (Sg x0 x2 x4 aH m)=(ag .other .sub x2 aH).bind fun v1=>(AC ae 201 [x0,v1,x2,aH,x4] m).bind fun r2=>some ((.tup []),r2.2):=by kernel_rfl
def Si (m:af):St:=⟨(bA (aO (aJ []))),m⟩
def G0 (x0 x1 x2 x3 aH:AV) (m:af) (K:KT):OM:=bX 201 (c1 (c1 (c2 (aB f201)))) 1 (x0::x1::x2::x3::aO (aJ (aH::bw (aX (aJ (aG [])))))) m K
abbrev qdY (K:KT):KT:=bu 0 K
abbrev KI (K:KT):KT:=(qdY K)
theorem qg4 (a0 a1 a2 a3 a4:AV) (m:af):AC ae 201 [a0,a1,a2,a3,a4] m=G0 a0 a1 a2 a3 (.int .i64 0) m (KI (aE ae.P f201.results.toList)):=
(bj ae 201 [a0,a1,a2,a3,a4] m (fn:=f201) (c:=aB f201) qjF rfl).trans (by kernel_rfl)
theorem Rw (x0 x1 x2 x3 aH:AV) (m:af) (K:KT):G0 x0 x1 x2 x3 aH m K=(ag .other .lss aH x3).bind fun v1=>aw v1 ((ag .other .add x1 aH).bind fun v2=>(ag .other .add x2 aH).bind fun v3=>(ag .other .add x2 aH).bind fun v4=>(aF none x0 v4).bind fun v5=>(ai none m v5).bind fun v6=>(ag .other .add x1 aH).bind fun v7=>(aF none x0 v7).bind fun v8=>(ai none m v8).bind fun v9=>(aF none x0 v2).bind fun v10=>(aM none m v10 v6).bind fun m11=>(aF none x0 v3).bind fun v12=>(aM none m11 v12 v9).bind fun m13=>(ag .other .add aH (.int .i64 1)).bind fun bg=>G0 x0 x1 x2 x3 bg m13 K) (K (.exit 0) (Si m)):=
(bW (bP _) _ _ _).trans (by kernel_rfl)
theorem qdZ (m:af):KI (aE ae.P f201.results.toList) (.exit 0) (Si  m)=some ((.tup []),m):=by kernel_rfl
end
end Go.Ab
namespace Go.Ab
open Go.Proofs Go.Proofs.Tryz
abbrev ni (n:Nat):AV:=.int .i64 (n:Int)
def ds (l:List Nat):List AV:=(l.map Int.ofNat).map (AV.int .i64)
theorem MQ (l:List Nat):(ds l).length=l.length:=by simp[ds]
theorem Ii {l:List Nat} {i x:Nat} (h:l[i]?=some x):(ds l)[i]?=some (ni x):=by simp[ds,h]
theorem qlp (l:List Nat) (i x:Nat):(ds l).set i (ni x)=ds (l.set i x):=by simp[ds,List.map_set]
structure SD (m0:af) (nm N L:Nat) (m:af) (l:List Nat):Prop where
 fr:Fr m0 m [nm]
 hd:m.get nm=some (.obj false (ds l))
 hl:l.length=L
 hN:∀ x∈l,x < N
def qx (m0:af) (nm N:Nat) (p:AV) (f:Nat->Int):Prop:=∀ m,Fr m0 m [nm]->∀ x y:Nat,x < N->y < N->∃ m',AC ae 67 [ni x,ni y,p] m=some (.int .i64 (f x - f y),m')/\Fr m m' []
section
variable {m0:af} {nm N L:Nat} {m:af} {l:List Nat}
theorem SD.ld (h:SD m0 nm N L m l) {i x:Nat} (hi:l[i]?=some x):ai none m (.ptr nm i)=some (ni x):=by
 rw[bV,h.hd,kh,aa,uZ];exact Ii hi
theorem SD.ld' (h:SD m0 nm N L m l) {i:Nat} (hi:i < L):ai none m (.ptr nm i)=some (ni (l.getD i 0))/\l.getD i 0 < N:=by
 have cm:i < l.length:=by rw[h.hl];exact hi
 have e:l[i]?=some (l.getD i 0):=by rw[aT,bM cm];rfl
 exact ⟨h.ld e,h.hN _ (List.mem_of_getElem? e)⟩
theorem SD.st (h:SD m0 nm N L m l) {i x:Nat} (hi:i < l.length):aM none m (.ptr nm i) (ni x)=some (m.set nm (some (.obj false (ds (l.set i x))))):=by
 have hg:m.obj? nm=some (false,ds l):=by rw[qm,h.hd];rfl
 have h1:i+1<=l.length:=hi;simp only[aM,hg,aa,Sh.size,MQ,h1,bz,cU,dG,AV.cells];congr 4;rw[<- qlp,bJ,De,an (by rw[MQ];exact hi)];simp
theorem SD.cmp (h:SD m0 nm N L m l) {p:AV} {f:Nat->Int} (hc:qx m0 nm N p f) {x y:Nat} (hx:x < N) (hy:y < N):∃ m',AC ae 67 ([ni x,ni y]++[p]) m=some (.int .i64 (f x - f y),m')/\SD m0 nm N L m' l:=by
 obtain ⟨m',e,k⟩:=hc m h.fr x y hx hy;refine ⟨m',e,Fr.trans h.fr k (fun _ h=>by cases h),?_,h.hl,h.hN⟩;rw[k.get nm (bC h.hd) (by simp)];exact h.hd
theorem qqn {P M Q:List Nat} {x y:Nat}:(P++x::(M++y::Q))[P.length]?=some x/\(P++x::(M++y::Q))[P.length+1+M.length]?=some y /\
  ((P++x::(M++y::Q)).set P.length y).set (P.length+1+M.length) x=P++y::(M++x::Q)/\((P++x::(M++y::Q)).set (P.length+1+M.length) x).set P.length y=P++y::(M++x::Q):=by
 have a:∀ (P':List Nat) (u v:Nat) (R:List Nat),(P'++u::R)[P'.length]?=some u/\(P'++u::R).set P'.length v=P'++v::R:=fun P' u v R=>by
  constructor
  ·simp
  ·induction P' with
   | nil=>rfl
   | cons c P' ih=>simp
 have e1:P++x::(M++y::Q)=(P++x::M)++y::Q:=by simp
 have e2:P++y::(M++y::Q)=(P++y::M)++y::Q:=by simp
 have l1:P.length+1+M.length=(P++x::M).length:=by simp;omega
 have l2:P.length+1+M.length=(P++y::M).length:=by simp;omega
 refine ⟨(a P x y _).1,?_,?_,?_⟩
 ·rw[e1,l1];exact (a (P++x::M) y x Q).1
 ·rw[(a P x y (M++y::Q)).2,e2,l2,(a (P++y::M) y x Q).2];simp
 ·rw[e1,l1,(a (P++x::M) y x Q).2];have:(P++x::M)++x::Q=P++x::(M++x::Q):=by simp
  rw[this,(a P x y _).2]
theorem SD.put (h:SD m0 nm N L m l) {l':List Nat} (hp:l'.Perm l) (hlen:l'.length=l.length) {m':af} (fr:Fr m m' [nm]) (hd:m'.get nm=some (.obj false (ds l'))):SD m0 nm N L m' l':=
 ⟨Fr.trans h.fr fr (fun x hx=>.inl hx),hd,hlen.trans h.hl,fun x hx=>h.hN x (hp.mem_iff.1 hx)⟩
theorem SD.swap {P M Q:List Nat} {x y i j:Nat} (h:SD m0 nm N L m (P++x::(M++y::Q))) (hi:i=P.length) (hj:j=P.length+1+M.length) :
  ai none m (.ptr nm i)=some (ni x)/\ai none m (.ptr nm j)=some (ni y) /\
  (∃ m1 m2,aM none m (.ptr nm i) (ni y)=some m1/\aM none m1 (.ptr nm j) (ni x)=some m2/\SD m0 nm N L m2 (P++y::(M++x::Q))) /\
  (∃ m1 m2,aM none m (.ptr nm j) (ni x)=some m1/\aM none m1 (.ptr nm i) (ni y)=some m2/\SD m0 nm N L m2 (P++y::(M++x::Q))):=by
 subst hi hj;obtain ⟨a1,a2,a3,a4⟩:=qqn (P:=P) (M:=M) (Q:=Q) (x:=x) (y:=y);have hlt:=bC h.hd;have li:P.length < (P++x::(M++y::Q)).length:=by simp
 have lj:P.length+1+M.length < (P++x::(M++y::Q)).length:=by simp;omega
 have hp:(P++y::(M++x::Q)).Perm (P++x::(M++y::Q)):=by
  refine C9 P ?_;have e:∀ u v:Nat,(u::(M++v::Q)).Perm (u::v::(M++Q)):=fun u v=>List.Perm.cons u List.perm_middle;exact (e y x).trans ((List.Perm.swap x y _).trans (e x y).symm)
 have go:∀ (i j u v:Nat),i < (P++x::(M++y::Q)).length->j < (P++x::(M++y::Q)).length->u < N->((P++x::(M++y::Q)).set i u).set j v=P++y::(M++x::Q) ->
   ∃ m1 m2,aM none m (.ptr nm i) (ni u)=some m1/\aM none m1 (.ptr nm j) (ni v)=some m2/\SD m0 nm N L m2 (P++y::(M++x::Q)):=by
  intro i j u v hi hj hu he
  refine ⟨_,(m.set nm (some (.obj false (ds ((P++x::(M++y::Q)).set i u))))).set nm (some (.obj false (ds (P++y::(M++x::Q))))),h.st hi,?_,?_⟩
  ·have h':SD m0 nm N L (m.set nm (some (.obj false (ds ((P++x::(M++y::Q)).set i u))))) ((P++x::(M++y::Q)).set i u):=by
    refine ⟨h.fr.set _ (.inl (by simp)),cL rfl hlt,by rw[a8];exact h.hl,fun z hz=>?_⟩
    rcases List.mem_or_eq_of_mem_set hz with hz | rfl
    ·exact h.hN z hz
    ·exact hu
   rw[h'.st (by rw[a8];exact hj),he]
  ·exact h.put hp (by simp) (((Fr.refl m [nm]).set _ (.inl (by simp))).set _ (.inl (by simp))) (cL rfl (by rw[a8];exact hlt))
 have hx:=h.hN x (by simp);have hy:=h.hN y (by simp);exact ⟨h.ld a1,h.ld a2,go _ _ _ _ li lj hy a3,go _ _ _ _ lj li hx a4⟩
end
section
variable {m0:af} {nm N L:Nat} {p:AV} {f:Nat->Int}
theorem qhX (hL:L<=100000) (x4:AV) {pre mid post:List Nat} (a b n:Nat) (ha:a=pre.length) (hb:b=a+n+mid.length):∀ (X2 Y2 X1 Y1:List Nat) (m:af),X2.length=Y2.length->X1.length=Y1.length->X1.length+X2.length=n ->
  SD m0 nm N L m (pre++(Y1++(X2++(mid++(X1++(Y2++post)))))) ->
  ∃ m',G0 (.arr nm 0 L none) (ni a) (ni b) (ni n) (ni X1.length) m (KI (aE ae.P f201.results.toList))=some (.tup [],m')/\SD m0 nm N L m' (pre++((Y1++Y2)++(mid++((X1++X2)++post)))):=by
 intro X2
 induction X2 with
 | nil=>
  intro Y2 X1 Y1 m h2 h1 hn h;have:Y2=[]:=ou (by simpa using h2.symm);subst this;refine ⟨m,?_,by simpa using h⟩;rw[Rw,bc,aa,aA,aj (by simp at hn;omega),qdZ]
 | cons x X2 ih=>
  intro Y2 X1 Y1 m h2 h1 hn h
  cases Y2 with
  | nil=>simp at h2
  | cons y Y2=>
   simp only[aL] at h2 hn;have hl:=h.hl;simp only[aI,aL] at hl;have h':SD m0 nm N L m ((pre++Y1)++x::((X2++(mid++X1))++y::(Y2++post))):=by simpa using h
   obtain ⟨l1,l2,⟨m1,m2,s1,s2,k⟩,_⟩:=h'.swap (i:=a+X1.length) (j:=b+X1.length) (by simp;omega) (by simp;omega);obtain ⟨m',e,k'⟩:=ih Y2 (X1++[x]) (Y1++[y]) m2 (by omega) (by simp[h1]) (by simp;omega) (by simpa using k);refine ⟨m',?_,by simpa using k'⟩;have ia:aF none (.arr nm 0 L none) (ni (a+X1.length))=some (.ptr nm (a+X1.length)):=ga (by omega);have ib:aF none (.arr nm 0 L none) (ni (b+X1.length))=some (.ptr nm (b+X1.length)):=ga (by omega);rw[Rw,bc,aa,aA,an (by omega),kS (by omega),aa,kS (by omega),aa,aa,ib,aa,l2,aa,aa,ia,aa,l1,aa,aa,s1,aa,aa,s2,aa,cr (by omega),aa];rw[aI,rh] at e;exact e
theorem J7 (hL:L<=100000) (x4:AV) {pre mid post X Y:List Nat} {m:af} (hXY:X.length=Y.length) (h:SD m0 nm N L m (pre++(X++(mid++(Y++post))))) {a b n:Nat} (ha:a=pre.length) (hn:n=X.length) (hb:b=a+n+mid.length) :
  ∃ m',AC ae 201 [.arr nm 0 L none,ni a,ni b,ni n,x4] m=some (.tup [],m')/\SD m0 nm N L m' (pre++(Y++(mid++(X++post)))):=by
 obtain ⟨m',e,k⟩:=qhX hL x4 a b n ha hb X Y [] [] m hXY rfl (by simp[hn]) (by simpa using h);exact ⟨m',by rw[qg4];exact e,by simpa using k⟩
theorem qhR (hL:L<=100000) (x4:AV) (mm:Nat):∀ (k:Nat) (P A B Q:List Nat) (m:af),A.length+B.length=k->A≠[]->B≠[]->mm=P.length+A.length->SD m0 nm N L m (P++(A++(B++Q))) ->
  ∃ m',CS (.arr nm 0 L none) (ni mm) x4 (ni A.length) (ni B.length) m (KB (aE ae.P f186.results.toList))=some (.tup [],m')/\SD m0 nm N L m' (P++(B++(A++Q))):=by
 intro k
 induction k using Nat.strongRecOn with
 | ind k ih=>
  intro P A B Q m hk hA hB hm h;have hl:=h.hl;simp only[aI] at hl;have a0:=ye.2 hA;have b0:=ye.2 hB
  by_cases he:A.length=B.length
  ·obtain ⟨m',e,k'⟩:=J7 hL x4 (mid:=[]) he (by simpa using h) (a:=P.length) (b:=mm) (n:=A.length) rfl rfl (by simp[hm]);refine ⟨m',?_,by simpa using k'⟩;rw[KU,gZ,aa,aA,aj (by rw[he];simp),qdr,nD (by omega) (by omega),aa,show mm - A.length=P.length by omega,e,aa]
  ·by_cases hg:B.length < A.length
   ·have eA:A=A.take B.length++A.drop B.length:=(oB _ _).symm;have t1:(A.take B.length).length=B.length:=by rw[jV];omega
    have t2:(A.drop B.length).length=A.length - B.length:=rf
    obtain ⟨m1,e,k1⟩:=J7 hL x4 (pre:=P) (X:=A.take B.length) (mid:=A.drop B.length) (Y:=B) (post:=Q) t1 (by
     rw[<- gd (A.take B.length),oB];exact h) (a:=P.length) (b:=mm) (n:=B.length) rfl t1.symm (by omega)
    obtain ⟨m',e2,k2⟩:=ih A.length (by omega) (P++B) (A.drop B.length) (A.take B.length) Q m1 (by omega) (uM (by omega)) (uM (by omega)) (by simp;omega) (by simpa using k1)
    refine ⟨m',?_,?_⟩
    ·rw[KU,gZ,aa,aA,an (by omega),gY,aa,aA,an (by omega),nD (by omega) (by omega),aa,show mm - A.length=P.length by omega,e,aa,nD (by omega) (by omega),aa];rw[t1,t2] at e2;exact e2
    ·have:=k2;rw[gd,<- gd (A.take B.length),oB] at this;exact this
   ·have eB:B=B.take (B.length - A.length)++B.drop (B.length - A.length):=(oB _ _).symm;have t1:(B.take (B.length - A.length)).length=B.length - A.length:=by rw[jV];omega
    have t2:(B.drop (B.length - A.length)).length=A.length:=by rw[rf];omega
    obtain ⟨m1,e,k1⟩:=J7 hL x4 (pre:=P) (X:=A) (mid:=B.take (B.length - A.length)) (Y:=B.drop (B.length - A.length)) (post:=Q) t2.symm (by
     rw[<- gd (B.take (B.length - A.length)),oB];exact h) (a:=P.length) (b:=mm+B.length - A.length) (n:=A.length) rfl rfl (by omega)
    obtain ⟨m',e2,k2⟩:=ih B.length (by omega) P (B.drop (B.length - A.length)) (B.take (B.length - A.length)) (A++Q) m1 (by omega) (uM (by omega)) (uM (by omega)) (by omega) (by simpa using k1)
    refine ⟨m',?_,?_⟩
    ·rw[KU,gZ,aa,aA,an (by omega),gY,aa,aA,aj (by omega),nD (by omega) (by omega),aa,show mm - A.length=P.length by omega,kS (by omega),aa,nD (by omega) (by omega),aa,e,aa,nD (by omega) (by omega),aa];rw[t1,t2] at e2;exact e2
    ·have:=k2;rw[<- gd (B.take (B.length - A.length)),oB] at this;exact this
theorem qaB (hL:L<=100000) (x4:AV) {P A B Q:List Nat} {m:af} (hA:A≠[]) (hB:B≠[]) (h:SD m0 nm N L m (P++(A++(B++Q)))) {a mm b:Nat} (ha:a=P.length) (hm:mm=a+A.length) (hb:b=mm+B.length) :
  ∃ m',AC ae 186 [.arr nm 0 L none,ni a,ni mm,ni b,x4] m=some (.tup [],m')/\SD m0 nm N L m' (P++(B++(A++Q))):=by
 have hl:=h.hl;simp only[aI] at hl;obtain ⟨m',e,k⟩:=qhR hL x4 mm _ P A B Q m rfl hA hB (by omega) h;refine ⟨m',?_,k⟩;rw[qg1,nD (by omega) (by omega),aa,nD (by omega) (by omega),aa,show mm - a=A.length by omega,show b - mm=B.length by omega];exact e
theorem qhM (hL:L<=100000) (hc:qx m0 nm N p f) {pre post:List Nat} (x2 x8:AV) {x:Nat} (K:KT):∀ (k:Nat) (S1 S2:List Nat) (m:af),S1.length=k->cP f (S1++S2)->(∀ s∈S2,f x<=f s)->SD m0 nm N L m (pre++(S1++x::(S2++post))) ->
  ∃ (m':af) (T1 T2:List Nat),Ar (.arr nm 0 L none) (ni pre.length) x2 (.fn 67 [p]) x8 (ni (pre.length+S1.length)) m K=K (.exit 2) (Di (.arr nm 0 L none) (ni pre.length) x2 (.fn 67 [p]) x8 m') /\
   SD m0 nm N L m' (pre++(T1++x::(T2++post)))/\T1++T2=S1++S2/\(∀ t∈T1,f t<=f x)/\∀ t∈T2,f x<=f t:=by
 intro k
 induction k with
 | zero=>
  intro S1 S2 m hk hs h2 h;have:S1=[]:=ou hk;subst this;refine ⟨m,[],S2,?_,h,rfl,by simp,h2⟩;rw[Rf,gY,aa,aA,aj (by simp)]
 | succ k ih=>
  intro S1 S2 m hk hs h2 h
  obtain ⟨S,y,rfl⟩:∃ S y,S1=S++[y]:=by
   have hne:S1≠[]:=fun e=>by simp[e] at hk
   exact ⟨S1.dropLast,S1.getLast hne,(List.dropLast_concat_getLast hne).symm⟩
  have hl:=h.hl;simp only[aI,aL,aQ] at hl hk ⊢;have h':SD m0 nm N L m ((pre++S)++y::([]++x::(S2++post))):=by simpa using h
  have ke:pre.length+(S.length+1) - 1=(pre++S).length:=by simp
  have hj:pre.length+(S.length+1)=(pre++S).length+1+([]:List Nat).length:=by simp;omega
  obtain ⟨l1,l2,_,_⟩:=h'.swap ke hj;have hx:=h.hN x (by simp);have hy:=h.hN y (by simp);obtain ⟨m1,e1,k1⟩:=h.cmp hc hx hy;have ia:aF none (.arr nm 0 L none) (ni (pre.length+(S.length+1)))=some (.ptr nm (pre.length+(S.length+1))):=ga (by omega);have ib:aF none (.arr nm 0 L none) (ni (pre.length+(S.length+1) - 1))=some (.ptr nm (pre.length+(S.length+1) - 1)):=ga (by omega);have is:ag .other .sub (ni (pre.length+(S.length+1))) (.int .i64 1)=some (ni (pre.length+(S.length+1) - 1)):=ph (by omega) (by omega)
  have zb:Ar (.arr nm 0 L none) (ni pre.length) x2 (.fn 67 [p]) x8 (ni (pre.length+(S.length+1))) m K=aw (.bool (decide (f x - f y < 0))) (
    (ag .other .sub (ni (pre.length+(S.length+1))) (.int .i64 1)).bind fun v11=>
    (ag .other .sub (ni (pre.length+(S.length+1))) (.int .i64 1)).bind fun v12=>
    (aF none (.arr nm 0 L none) v12).bind fun bh=>
    (ai none m1 bh).bind fun bg=>
    (aF none (.arr nm 0 L none) (ni (pre.length+(S.length+1)))).bind fun bo=>
    (ai none m1 bo).bind fun bL=>
    (aF none (.arr nm 0 L none) (ni (pre.length+(S.length+1)))).bind fun bD=>
    (aM none m1 bD bg).bind fun m18=>
    (aF none (.arr nm 0 L none) v11).bind fun c8=>
    (aM none m18 c8 bL).bind fun m20=>
    (ag .other .sub (ni (pre.length+(S.length+1))) (.int .i64 1)).bind fun v21=>
    Ar (.arr nm 0 L none) (ni pre.length) x2 (.fn 67 [p]) x8 v21 m20 K) (K (.exit 2) (Di (.arr nm 0 L none) (ni pre.length) x2 (.fn 67 [p]) x8 m1)):=by
   rw[Rf,gY,aa,aA,an (by omega),ia,aa,l2,aa,is,aa,ib,aa,l1,aa,show lH (.fn 67 [p])=some (67,[p]) from rfl,aa,tK rfl rfl rfl,e1,aa,bc,aa]
  rw[zb,aA]
  by_cases hlt:f x - f y < 0
  ·rw[an hlt];have k1':SD m0 nm N L m1 ((pre++S)++y::([]++x::(S2++post))):=by simpa using k1
   obtain ⟨l1',l2',_,⟨m2,m3,s1,s2,k3⟩⟩:=k1'.swap ke hj
   obtain ⟨m',T1,T2,e,q1,q2,q3,q4⟩:=ih S (y::S2) m3 (by omega) (by simpa using hs) (fun s gD=>by
    rcases gA.1 gD with rfl | gD
    ·omega
    ·exact h2 s gD) (by simpa using k3)
   refine ⟨m',T1,T2,?_,q1,by rw[q2];simp,q3,q4⟩;rw[is,aa,aa,ib,aa,l1',aa,ia,aa,l2',aa,aa,s1,aa,aa,s2,aa,aa];exact e
  ·rw[aj hlt];refine ⟨m1,S++[y],S2,rfl,k1,rfl,fun t ht=>?_,h2⟩;have:=cP.le_last (cP.app.1 hs).1 t ht;omega
theorem qhN (hL:L<=100000) (hc:qx m0 nm N p f) {pre post:List Nat} (b:Nat):∀ (R S:List Nat) (m:af),cP f S->b=pre.length+S.length+R.length->SD m0 nm N L m (pre++(S++(R++post))) ->
  ∃ (m':af) (S':List Nat),GO (.arr nm 0 L none) (ni pre.length) (ni b) (.fn 67 [p]) (ni (pre.length+S.length)) m (FY (aE ae.P f165.results.toList))=some (.tup [],m')/\SD m0 nm N L m' (pre++(S'++post))/\S'.Perm (S++R)/\cP f S':=by
 intro R
 induction R with
 | nil=>
  intro S m hs hb h;refine ⟨m,S,?_,by simpa using h,by simp,hs⟩;rw[KR,bc,aa,aA,aj (by simp at hb;omega),QE]
 | cons x R ih=>
  intro S m hs hb h;have hl:=h.hl;simp only[aI,aL] at hl hb;obtain ⟨m1,T1,T2,e,q1,q2,q3,q4⟩:=qhM hL hc (pre:=pre) (post:=R++post) (ni b) (ni (pre.length+S.length)) (x:=x) (Ku (FY (aE ae.P f165.results.toList))) S.length S [] m rfl (by simpa using hs) (by simp) (by simpa using h);rw[bY] at q2;have gD:cP f (T1++x::T2):=cP.put (by rw[q2];exact hs) q3 q4;have hlen:(T1++x::T2).length=S.length+1:=by rw[<- q2];simp;omega
  have Bv:(T1++x::T2).Perm (S++[x]):=by rw[<- q2];exact List.perm_middle.trans (List.perm_append_singleton x _).symm
  obtain ⟨m',S',e2,k1,k2,k3⟩:=ih (T1++x::T2) m1 gD (by rw[hlen];omega) (by simpa using q1)
  refine ⟨m',S',?_,k1,k2.trans ?_,k3⟩
  ·rw[KR,bc,aa,aA,an (by omega),e,qcJ,cr (by omega),aa];rw[hlen] at e2;exact e2
  ·refine (Bv.append_right R).trans ?_;simp
theorem Qg (hL:L<=100000) (hc:qx m0 nm N p f) {pre X post:List Nat} {m:af} (h:SD m0 nm N L m (pre++(X++post))) {a b:Nat} (ha:a=pre.length) (hb:b=a+X.length) :
  ∃ (m':af) (X':List Nat),AC ae 165 [.arr nm 0 L none,ni a,ni b,.fn 67 [p]] m=some (.tup [],m')/\SD m0 nm N L m' (pre++(X'++post))/\X'.Perm X/\cP f X':=by
 have hl:=h.hl;simp only[aI] at hl;subst ha
 cases X with
 | nil=>
  refine ⟨m,[],?_,by simpa using h,by simp,List.Pairwise.nil⟩;rw[SG,cr (by omega),aa,KR,bc,aa,aA,aj (by simp at hb;omega),QE]
 | cons x R=>
  obtain ⟨m',S',e,k1,k2,k3⟩:=qhN hL hc (pre:=pre) (post:=post) b R [x] m (List.pairwise_singleton _ _) (by rw[hb];simp only[aL,aQ];omega) (by simpa using h);refine ⟨m',S',?_,k1,by simpa using k2,k3⟩;rw[SG,cr (by omega),aa];exact e
end
end Go.Ab
namespace Go.Ab
open Go.Proofs Go.Proofs.Tryz
theorem qpE (a:Nat):ag .other .shr (.int .u64 (a:Int)) (.int .u64 1)=some (.int .u64 ((a / 2:Nat):Int)):=by
 rw[Uh _ _ _ _ _ (by omega)]
 have:(a:Int).fdiv (2 ^ (min (1:Int).toNat (IntKind.bits .u64)))=((a / 2:Nat):Int):=by
  have e:min (1:Int).toNat (IntKind.bits .u64)=1:=rfl;rw[e,Int.fdiv_eq_ediv_of_nonneg _ (by omega)];omega
 rw[this]
theorem qkP {k:IntKind} {a:Nat} (h:a < 9223372036854775808):bq .i64 (.int k a)=some (ni a):=by rw[lZ,iQ (by omega) (by omega)]
section
variable {R:Type}
theorem Jg {i j:Nat} (h:i+j < 1000000) (K:AV->Option R):((ag .other .add (ni i) (ni j)).bind fun v2=>(bq .u64 v2).bind fun v3=>(ag .other .shr v3 (.int .u64 1)).bind fun v4=>(bq .i64 v4).bind fun v5=>K v5)=K (ni ((i+j) / 2)):=by
 rw[kS (by omega),aa,AZ (by omega),aa,qpE,aa,qkP (by omega),aa]
end
section
variable {m0:af} {nm N L:Nat} {p:AV} {f:Nat->Int}
theorem S3 (hL:L<=100000) (hc:qx m0 nm N p f) {l:List Nat} {a lo hi:Nat} (ha:a < L) (hh:hi<=L) (K:KT):∀ (k i j:Nat) (m:af),j - i=k->lo<=i->i<=j->j<=hi->(i=lo\/f (l.getD (i - 1) 0) < f (l.getD a 0))->(j=hi\/¬ f (l.getD j 0) < f (l.getD a 0))->SD m0 nm N L m l ->
  ∃ (m':af) (s:Nat),wi (.arr nm 0 L none) (ni a) (.fn 67 [p]) (ni i) (ni j) m K=K (.exit 0) (Lk (.arr nm 0 L none) (ni a) (ni s) m')/\SD m0 nm N L m' l/\Edge (fun c=>f (l.getD c 0) < f (l.getD a 0)) lo hi s:=by
 intro k
 induction k using Nat.strongRecOn with
 | ind k ih=>
  intro i j m hk h1 h2 h3 h4 h5 h
  by_cases qe:i < j
  ·have qh:i<=(i+j) / 2:=by omega
   have vw:(i+j) / 2 < j:=by omega
   generalize Es:(i+j) / 2=q at qh vw;obtain ⟨l1,n1⟩:=h.ld' (i:=q) (by omega);obtain ⟨l2,n2⟩:=h.ld' (i:=a) ha;obtain ⟨m1,e1,k1⟩:=h.cmp hc n1 n2;have i1:aF none (.arr nm 0 L none) (ni q)=some (.ptr nm q):=ga (by omega);have i2:aF none (.arr nm 0 L none) (ni a)=some (.ptr nm a):=ga ha
   have zb:wi (.arr nm 0 L none) (ni a) (.fn 67 [p]) (ni i) (ni j) m K=aw (.bool (decide (f (l.getD q 0) - f (l.getD a 0) < 0))) ((ag .other .add (ni q) (.int .i64 1)).bind fun bg=>wi (.arr nm 0 L none) (ni a) (.fn 67 [p]) bg (ni j) m1 K) (wi (.arr nm 0 L none) (ni a) (.fn 67 [p]) (ni i) (ni q) m1 K):=by
    rw[Rj,bc,aa,aA,an (by omega),Jg (by omega),Es,i1,aa,l1,aa,i2,aa,l2,aa,show lH (.fn 67 [p])=some (67,[p]) from rfl,aa,tK rfl rfl rfl,e1,aa,bc,aa]
   rw[zb,aA]
   by_cases ht:f (l.getD q 0) - f (l.getD a 0) < 0
   ·rw[an ht,cr (by omega),aa];exact ih (j - (q+1)) (by omega) (q+1) j m1 rfl (by omega) (by omega) h3 (.inr (by rw[pF];omega)) h5 k1
   ·rw[aj ht];exact ih (q - i) (by omega) i q m1 rfl h1 qh (by omega) h4 (.inr (by omega)) k1
  ·have:i=j:=by omega
   subst this;refine ⟨m,i,?_,h,h1,h3,h4,h5⟩;rw[Rj,bc,aa,aA,aj (by omega)]
theorem S15 (hL:L<=100000) (hc:qx m0 nm N p f) {l:List Nat} {a lo hi:Nat} (ha:a < L) (hh:hi<=L) (K:KT):∀ (k i j:Nat) (m:af),j - i=k->lo<=i->i<=j->j<=hi->(i=lo\/f (l.getD (i - 1) 0)<=f (l.getD a 0))->(j=hi\/¬ f (l.getD j 0)<=f (l.getD a 0))->SD m0 nm N L m l ->
  ∃ (m':af) (s:Nat),wh (.arr nm 0 L none) (ni a) (.fn 67 [p]) (ni i) (ni j) m K=K (.exit 4) (Lj (.arr nm 0 L none) (ni a) (ni s) m')/\SD m0 nm N L m' l/\Edge (fun c=>f (l.getD c 0)<=f (l.getD a 0)) lo hi s:=by
 intro k
 induction k using Nat.strongRecOn with
 | ind k ih=>
  intro i j m hk h1 h2 h3 h4 h5 h
  by_cases qe:i < j
  ·have qh:i<=(i+j) / 2:=by omega
   have vw:(i+j) / 2 < j:=by omega
   generalize Es:(i+j) / 2=q at qh vw;obtain ⟨l1,n1⟩:=h.ld' (i:=q) (by omega);obtain ⟨l2,n2⟩:=h.ld' (i:=a) ha;obtain ⟨m1,e1,k1⟩:=h.cmp hc n2 n1;have i1:aF none (.arr nm 0 L none) (ni q)=some (.ptr nm q):=ga (by omega);have i2:aF none (.arr nm 0 L none) (ni a)=some (.ptr nm a):=ga ha
   have zb:wh (.arr nm 0 L none) (ni a) (.fn 67 [p]) (ni i) (ni j) m K=aw (.bool (!decide (f (l.getD a 0) - f (l.getD q 0) < 0))) ((ag .other .add (ni q) (.int .i64 1)).bind fun bg=>wh (.arr nm 0 L none) (ni a) (.fn 67 [p]) bg (ni j) m1 K) (wh (.arr nm 0 L none) (ni a) (.fn 67 [p]) (ni i) (ni q) m1 K):=by
    rw[Rg,bc,aa,aA,an (by omega),Jg (by omega),Es,i2,aa,l2,aa,i1,aa,l1,aa,show lH (.fn 67 [p])=some (67,[p]) from rfl,aa,tK rfl rfl rfl,e1,aa,bc,aa,n9,aa]
   rw[zb]
   by_cases ht:f (l.getD a 0) - f (l.getD q 0) < 0
   ·rw[eE ht,jU,gO];exact ih (q - i) (by omega) i q m1 rfl h1 qh (by omega) h4 (.inr (by omega)) k1
   ·rw[cT ht,nH,iV,cr (by omega),aa];exact ih (j - (q+1)) (by omega) (q+1) j m1 rfl (by omega) (by omega) h3 (.inr (by rw[pF];omega)) h5 k1
  ·have:i=j:=by omega
   subst this;refine ⟨m,i,?_,h,h1,h3,h4,h5⟩;rw[Rg,bc,aa,aA,aj (by omega)]
theorem S33 (hL:L<=100000) (hc:qx m0 nm N p f) {l:List Nat} {pp lo hi:Nat} (hh:hi<=pp+1) (hp:pp < L+lo) (hhl:hi<=L) (x1 x2 x3 de gU:AV) (K:KT):∀ (k i j:Nat) (m:af),j - i=k->lo<=i->i<=j->j<=hi->(i=lo\/f (l.getD (i - 1) 0)<=f (l.getD (pp - (i - 1)) 0))->(j=hi\/¬ f (l.getD j 0)<=f (l.getD (pp - j) 0))->SD m0 nm N L m l ->
  ∃ (m':af) (s:Nat),ra (.arr nm 0 L none) x1 x2 x3 (.fn 67 [p]) de gU (ni i) (ni j) (ni pp) m K=K (.exit 8) (Hq (.arr nm 0 L none) x1 x2 x3 (.fn 67 [p]) de gU (ni s) m')/\SD m0 nm N L m' l/\Edge (fun c=>f (l.getD c 0)<=f (l.getD (pp - c) 0)) lo hi s:=by
 intro k
 induction k using Nat.strongRecOn with
 | ind k ih=>
  intro i j m hk h1 h2 h3 h4 h5 h
  by_cases qe:i < j
  ·have qh:i<=(i+j) / 2:=by omega
   have vw:(i+j) / 2 < j:=by omega
   generalize Es:(i+j) / 2=q at qh vw;obtain ⟨l1,n1⟩:=h.ld' (i:=q) (by omega);obtain ⟨l2,n2⟩:=h.ld' (i:=pp - q) (by omega);obtain ⟨m1,e1,k1⟩:=h.cmp hc n2 n1;have i1:aF none (.arr nm 0 L none) (ni q)=some (.ptr nm q):=ga (by omega);have i2:aF none (.arr nm 0 L none) (ni (pp - q))=some (.ptr nm (pp - q)):=ga (by omega)
   have zb:ra (.arr nm 0 L none) x1 x2 x3 (.fn 67 [p]) de gU (ni i) (ni j) (ni pp) m K=aw (.bool (!decide (f (l.getD (pp - q) 0) - f (l.getD q 0) < 0))) ((ag .other .add (ni q) (.int .i64 1)).bind fun bg=>ra (.arr nm 0 L none) x1 x2 x3 (.fn 67 [p]) de gU bg (ni j) (ni pp) m1 K) (ra (.arr nm 0 L none) x1 x2 x3 (.fn 67 [p]) de gU (ni i) (ni q) (ni pp) m1 K):=by
    rw[Ri,bc,aa,aA,an (by omega),Jg (by omega),Es,nD (by omega) (by omega),aa,i2,aa,l2,aa,i1,aa,l1,aa,show lH (.fn 67 [p])=some (67,[p]) from rfl,aa,tK rfl rfl rfl,e1,aa,bc,aa,n9,aa]
   rw[zb]
   by_cases ht:f (l.getD (pp - q) 0) - f (l.getD q 0) < 0
   ·rw[eE ht,jU,gO];exact ih (q - i) (by omega) i q m1 rfl h1 qh (by omega) h4 (.inr (by omega)) k1
   ·rw[cT ht,nH,iV,cr (by omega),aa];exact ih (j - (q+1)) (by omega) (q+1) j m1 rfl (by omega) (by omega) h3 (.inr (by rw[pF];omega)) h5 k1
  ·have:i=j:=by omega
   subst this;refine ⟨m,i,?_,h,h1,h3,h4,h5⟩;rw[Ri,bc,aa,aA,aj (by omega)]
theorem W9 (hL:L<=100000) {x s:Nat} {pre post:List Nat}:∀ (Q P:List Nat) (m:af),s=pre.length+P.length+1+Q.length->SD m0 nm N L m (pre++(P++x::(Q++post))) ->
  ∃ m',GQ (.arr nm 0 L none) (ni s) (ni (pre.length+P.length)) m (Ky (aE ae.P f166.results.toList))=some (.tup [],m')/\SD m0 nm N L m' (pre++(P++(Q++x::post))):=by
 intro Q
 induction Q with
 | nil=>
  intro P m hs h;have hl:=h.hl;simp only[aI,aL,aQ] at hl hs;refine ⟨m,?_,h⟩;rw[Rk,ph (by omega) (by omega),aa,bc,aa,aA,aj (by omega),qc2]
 | cons y Q ih=>
  intro P m hs h;have hl:=h.hl;simp only[aI,aL] at hl hs;have h':SD m0 nm N L m ((pre++P)++x::([]++y::(Q++post))):=by simpa using h
  obtain ⟨l1,l2,⟨m1,m2,s1,s2,k⟩,_⟩:=h'.swap (i:=pre.length+P.length) (j:=pre.length+P.length+1) (by simp) (by simp);obtain ⟨m',e,k'⟩:=ih (P++[y]) m2 (by simp;omega) (by simpa using k);refine ⟨m',?_,by simpa using k'⟩;have ia:aF none (.arr nm 0 L none) (ni (pre.length+P.length))=some (.ptr nm (pre.length+P.length)):=ga (by omega);have ib:aF none (.arr nm 0 L none) (ni (pre.length+P.length+1))=some (.ptr nm (pre.length+P.length+1)):=ga (by omega);have i1:ag .other .add (ni (pre.length+P.length)) (.int .i64 1)=some (ni (pre.length+P.length+1)):=cr (by omega);rw[Rk,ph (by omega) (by omega),aa,bc,aa,aA,an (by omega),i1,aa,aa,ib,aa,l2,aa,ia,aa,l1,aa,aa,s1,aa,aa,s2,aa,aa];rw[aI,rh] at e;exact e
theorem W21 (hL:L<=100000) {x s:Nat} {pre post:List Nat} (hs:s=pre.length):∀ (k:Nat) (Q P:List Nat) (m:af),Q.length=k->SD m0 nm N L m (pre++(Q++x::(P++post))) ->
  ∃ m',GP (.arr nm 0 L none) (ni s) (ni (pre.length+Q.length)) m (Kw (aE ae.P f166.results.toList))=some (.tup [],m')/\SD m0 nm N L m' (pre++(x::(Q++(P++post)))):=by
 intro k
 induction k with
 | zero=>
  intro Q P m hk h;have:Q=[]:=ou hk;subst this;refine ⟨m,?_,h⟩;rw[Rh,gY,aa,aA,aj (by simp;omega),qcR]
 | succ k ih=>
  intro Q P m hk h
  obtain ⟨S,y,rfl⟩:∃ S y,Q=S++[y]:=by
   have hne:Q≠[]:=fun e=>by simp[e] at hk
   exact ⟨Q.dropLast,Q.getLast hne,(List.dropLast_concat_getLast hne).symm⟩
  have hl:=h.hl;simp only[aI,aL,aQ] at hl hk ⊢;have h':SD m0 nm N L m ((pre++S)++y::([]++x::(P++post))):=by simpa using h
  obtain ⟨l1,l2,_,⟨m1,m2,s1,s2,k1⟩⟩:=h'.swap (i:=pre.length+(S.length+1) - 1) (j:=pre.length+(S.length+1)) (by simp) (by simp;omega);obtain ⟨m',e,k'⟩:=ih S (y::P) m2 (by omega) (by simpa using k1);refine ⟨m',?_,by simpa using k'⟩;have ia:aF none (.arr nm 0 L none) (ni (pre.length+(S.length+1)))=some (.ptr nm (pre.length+(S.length+1))):=ga (by omega);have ib:aF none (.arr nm 0 L none) (ni (pre.length+(S.length+1) - 1))=some (.ptr nm (pre.length+(S.length+1) - 1)):=ga (by omega);have is:ag .other .sub (ni (pre.length+(S.length+1))) (.int .i64 1)=some (ni (pre.length+(S.length+1) - 1)):=ph (by omega) (by omega);have e0:ni (pre.length+(S.length+0+1))=ni (pre.length+(S.length+1)):=rfl;rw[Rh,gY,aa,aA,an (by omega),is,aa,aa,ib,aa,l1,aa,ia,aa,l2,aa,aa,s1,aa,aa,s2,aa,aa];exact e
end
end Go.Ab
namespace Go.Ab
open Go.Proofs Go.Proofs.Tryz
theorem cP.le_take {f:Nat->Int} {B:List Nat} (h:cP f B) {s:Nat} {c:Int} (hs:s<=B.length) (he:s=0\/f (B.getD (s - 1) 0)<=c):∀ t∈B.take s,f t<=c:=by
 cases s with
 | zero=>simp
 | succ s=>
  have hl:s < B.length:=hs
  rcases he with he | he
  ·cases he
  ·rw[pF,aT,bM hl,eh] at he;rw[oC hl];intro t ht
   have h1:cP f (B.take s++[B[s]]):=by
    rw[<- oC hl];exact C8 (List.take_sublist _ _) h
   exact Int.le_trans (cP.le_last h1 t ht) he
theorem cP.ge_drop {f:Nat->Int} {B:List Nat} (h:cP f B) {s:Nat} {c:Int} (he:s=B.length\/c<=f (B.getD s 0)):∀ t∈B.drop s,c<=f t:=by
 by_cases hl:s < B.length
 ·rcases he with he | he
  ·omega
  ·rw[aT,bM hl,eh] at he;rw[kr hl];intro t ht
   have h1:cP f (B[s]::B.drop (s+1)):=by
    rw[<- kr hl];exact C8 (List.drop_sublist _ _) h
   exact Int.le_trans he (cP.head_le h1 t ht)
 ·rw[jq (by omega)];simp
theorem DX {pre A B post:List Nat} {i k:Nat} (hi:i < A.length) (hk:k=pre.length+i):(pre++(A++(B++post))).getD k 0=A.getD i 0:=by
 subst hk;simp only[aT];rw[sa (by omega),Nat.add_sub_cancel_left,nK hi]
theorem DY {pre A B post:List Nat} {i k:Nat} (hi:i < B.length) (hk:k=pre.length+A.length+i):(pre++(A++(B++post))).getD k 0=B.getD i 0:=by
 subst hk;simp only[aT];rw[sa (by omega),sa (by omega),nK (by omega)];congr 2;omega
noncomputable def EO (x0 de v1 x3 x4:AV) (m:af):OM:=
 (ag .other .lss de v1).bind fun v=>aw v ((ag .other .lss v1 x3).bind fun w=>aw w ((AC ae 166 [x0,de,v1,x3,x4] m).bind fun r=>some ((.tup []),r.2)) (some ((.tup []),m))) (some ((.tup []),m))
noncomputable def xi (x0 x1 iK de v1 x3 x4:AV) (m:af):OM:=
 (ag .other .lss x1 iK).bind fun v=>aw v ((ag .other .lss iK de).bind fun w=>aw w ((AC ae 166 [x0,x1,iK,de,x4] m).bind fun r=>EO x0 de v1 x3 x4 r.2) (EO x0 de v1 x3 x4 m)) (EO x0 de v1 x3 x4 m)
theorem mE0 (x0 x1 x2 x3 x4 de gU iK:AV) (m:af):vZ (aE ae.P f166.results.toList) (.exit 8) (Hq x0 x1 x2 x3 x4 de gU iK m) =
  (ag .other .sub gU iK).bind fun v1=>(ag .other .lss iK x2).bind fun v2=>aw v2 ((ag .other .lss x2 v1).bind fun v3=>aw v3 ((AC ae 186 [x0,iK,x2,v1,x4] m).bind fun r=>xi x0 x1 iK de v1 x3 x4 r.2) (xi x0 x1 iK de v1 x3 x4 m)) (xi x0 x1 iK de v1 x3 x4 m):=(qcU x0 x1 x2 x3 x4 de gU iK m).trans rfl
section
variable {m0:af} {nm N L:Nat} {p:AV} {f:Nat->Int}
def Qo (m0:af) (nm N L:Nat) (p:AV) (f:Nat->Int) (n:Nat):Prop:=∀ (pre A B post:List Nat) (m:af) (a mm b:Nat),A.length+B.length=n->A≠[]->B≠[]->cP f A->cP f B->SD m0 nm N L m (pre++(A++(B++post)))->a=pre.length->mm=a+A.length->b=mm+B.length ->
 ∃ (m':af) (M:List Nat),AC ae 166 [.arr nm 0 L none,ni a,ni mm,ni b,.fn 67 [p]] m=some (.tup [],m')/\SD m0 nm N L m' (pre++(M++post))/\M.Perm (A++B)/\cP f M
theorem Yy {n:Nat} (ih:Qo m0 nm N L p f n) {pre A B post:List Nat} {m:af} {a mm b:Nat} (hn:A.length+B.length=n) (sA:cP f A) (sB:cP f B) (h:SD m0 nm N L m (pre++(A++(B++post)))) (ha:a=pre.length) (hm:mm=a+A.length) (hb:b=mm+B.length)
  {R:Type} (K:af->Option R):∃ (m':af) (M:List Nat),((ag .other .lss (ni a) (ni mm)).bind fun v=>aw v ((ag .other .lss (ni mm) (ni b)).bind fun w=>aw w ((AC ae 166 [.arr nm 0 L none,ni a,ni mm,ni b,.fn 67 [p]] m).bind fun r=>K r.2) (K m)) (K m))=K m'/\SD m0 nm N L m' (pre++(M++post))/\M.Perm (A++B)/\cP f M:=by
 rw[bc,aa,aA]
 by_cases hA:A=[]
 ·subst hA;rw[aj (by simp at hm;omega)];exact ⟨m,B,rfl,h,by simp,sB⟩
 ·have:=ye.2 hA;rw[an (by omega),bc,aa,aA]
  by_cases hB:B=[]
  ·subst hB;rw[aj (by simp at hb;omega)];exact ⟨m,A,rfl,by simpa using h,by simp,sA⟩
  ·have:=ye.2 hB;rw[an (by omega)];obtain ⟨m',M,e,k⟩:=ih pre A B post m a mm b hn hA hB sA sB h ha hm hb;exact ⟨m',M,by rw[e,aa],k⟩
theorem Qh (hL:L<=100000) (hc:qx m0 nm N p f):∀ n,Qo m0 nm N L p f n:=by
 intro n
 induction n using Nat.strongRecOn with
 | ind n ih=>
  intro pre A B post m a mm b hn hA hB sA sB h ha hm hb;have a0:=ye.2 hA;have b0:=ye.2 hB;have hl:=h.hl;simp only[aI] at hl;rw[qgT,nD (by omega) (by omega),aa,iM,aa,aA]
  by_cases h1:A.length=1
  ·rw[an (by omega)];obtain ⟨x,rfl⟩:=List.length_eq_one_iff.1 h1;obtain ⟨m1,s,e1,k1,g1,g2,g3,g4⟩:=S3 hL hc (l:=pre++([x]++(B++post))) (a:=a) (lo:=mm) (hi:=b) (by omega) (by omega) (Kx (aE ae.P f166.results.toList)) _ mm b m rfl (aR _) (by omega) (aR _) (.inl rfl) (.inl rfl) h;dsimp only at g3 g4;have ex:(pre++([x]++(B++post))).getD a 0=x:=by rw[DX (i:=0) (by simp) (by omega)];rfl
   rw[ex] at g3 g4
   have q1:∀ t∈B.take (s - mm),f t<=f x:=cP.le_take sB (by omega) (by
    rcases g3 with g3 | g3
    ·exact .inl (by omega)
    ·by_cases hz:s=mm
     ·exact .inl (by omega)
     ·rw[DY (i:=s - 1 - mm) (by omega) (by omega)] at g3;rw[show s - mm - 1=s - 1 - mm by omega]
      exact .inr (by omega))
   have q2:∀ t∈B.drop (s - mm),f x<=f t:=cP.ge_drop sB (by
    rcases g4 with g4 | g4
    ·exact .inl (by omega)
    ·by_cases hz:s=b
     ·exact .inl (by omega)
     ·rw[DY (i:=s - mm) (by omega) (by omega)] at g4
      exact .inr (by omega))
   have tl:(B.take (s - mm)).length=s - mm:=by rw[jV];omega
   obtain ⟨m2,e2,k2⟩:=W9 hL (x:=x) (s:=s) (pre:=pre) (post:=B.drop (s - mm)++post) (B.take (s - mm)) [] m1 (by simp at hm ⊢;omega) (by
    rw[bQ,<- gd (B.take (s - mm)),oB];exact k1)
   refine ⟨m2,B.take (s - mm)++x::B.drop (s - mm),?_,by simpa using k2,?_,?_⟩
   ·rw[e1,qcY,ha];exact e2
   ·refine List.perm_middle.trans ?_;rw[oB];exact List.Perm.refl _
   ·exact cP.put (by rw[oB];exact sB) q1 q2
  ·rw[aj (by omega),nD (by omega) (by omega),aa,iM,aa,aA]
   by_cases h2:B.length=1
   ·rw[an (by omega)];obtain ⟨x,rfl⟩:=List.length_eq_one_iff.1 h2;obtain ⟨m1,s,e1,k1,g1,g2,g3,g4⟩:=S15 hL hc (l:=pre++(A++([x]++post))) (a:=mm) (lo:=a) (hi:=mm) (by omega) (by omega) (Kv (aE ae.P f166.results.toList)) _ a mm m rfl (aR _) (by omega) (aR _) (.inl rfl) (.inl rfl) h;dsimp only at g3 g4;have ex:(pre++(A++([x]++post))).getD mm 0=x:=by rw[DY (i:=0) (by simp) (by omega)];rfl
    rw[ex] at g3 g4
    have q1:∀ t∈A.take (s - a),f t<=f x:=cP.le_take sA (by omega) (by
     rcases g3 with g3 | g3
     ·exact .inl (by omega)
     ·by_cases hz:s=a
      ·exact .inl (by omega)
      ·rw[DX (i:=s - 1 - a) (by omega) (by omega)] at g3;rw[show s - a - 1=s - 1 - a by omega]
       exact .inr g3)
    have q2:∀ t∈A.drop (s - a),f x<=f t:=cP.ge_drop sA (by
     rcases g4 with g4 | g4
     ·exact .inl (by omega)
     ·by_cases hz:s=mm
      ·exact .inl (by omega)
      ·rw[DX (i:=s - a) (by omega) (by omega)] at g4
       exact .inr (by omega))
    have tl:(A.take (s - a)).length=s - a:=by rw[jV];omega
    have dl:(A.drop (s - a)).length=A.length - (s - a):=rf
    obtain ⟨m2,e2,k2⟩:=W21 hL (x:=x) (s:=s) (pre:=pre++A.take (s - a)) (post:=post) (by simp[tl];omega) _ (A.drop (s - a)) [] m1 rfl (by
     rw[bQ,gd,<- gd (A.take (s - a)),oB];exact k1)
    refine ⟨m2,A.take (s - a)++x::A.drop (s - a),?_,by simpa using k2,?_,?_⟩
    ·rw[e1,qcN];have:(pre++A.take (s - a)).length+(A.drop (s - a)).length=mm:=by rw[aI,tl,dl];omega
     rw[this] at e2;exact e2
    ·refine List.perm_middle.trans ?_;rw[oB];exact (List.perm_append_singleton x A).symm
    ·exact cP.put (by rw[oB];exact sA) q1 q2
   ·rw[aj (by omega)];rw[Jg (by omega)];have Wj:(a+b) / 2 * 2<=a+b:=Hf _ _;have qmC:a+b<=(a+b) / 2 * 2+1:=by omega
    generalize (a+b) / 2=mid at Wj qmC;rw[kS (by omega),aa,gY,aa,aA]
    have srch:∃ (lo hi:Nat),(if ((mm:Nat):Int) > ((mid:Nat):Int) then
       (ag .other .sub (.int .i64 ((mid+mm:Nat):Int)) (ni b)).bind fun v11=>(ag .other .sub (.int .i64 ((mid+mm:Nat):Int)) (.int .i64 1)).bind fun v12=>ra (.arr nm 0 L none) (ni a) (ni mm) (ni b) (.fn 67 [p]) (ni mid) (.int .i64 ((mid+mm:Nat):Int)) v11 (ni mid) v12 m (vZ (aE ae.P f166.results.toList))
      else (ag .other .sub (.int .i64 ((mid+mm:Nat):Int)) (.int .i64 1)).bind fun bh=>ra (.arr nm 0 L none) (ni a) (ni mm) (ni b) (.fn 67 [p]) (ni mid) (.int .i64 ((mid+mm:Nat):Int)) (ni a) (ni mm) bh m (vZ (aE ae.P f166.results.toList))) =
      ra (.arr nm 0 L none) (ni a) (ni mm) (ni b) (.fn 67 [p]) (ni mid) (ni (mid+mm)) (ni lo) (ni hi) (ni (mid+mm - 1)) m (vZ (aE ae.P f166.results.toList))/\a<=lo/\lo<=hi/\hi<=mm/\hi<=mid/\mid+mm<=b+lo/\(lo=a\/mid+mm=b+lo)/\(hi=mm\/hi=mid):=by
     by_cases hg:mid < mm
     ·refine ⟨mid+mm - b,mid,?_,by omega,by omega,by omega,by omega,by omega,.inr (by omega),.inr rfl⟩;rw[an (by omega),nD (by omega) (by omega),aa,ph (by omega) (by omega),aa]
     ·refine ⟨a,mm,?_,by omega,by omega,by omega,by omega,by omega,.inl rfl,.inl rfl⟩;rw[aj (by omega),ph (by omega) (by omega),aa]
    obtain ⟨lo,hi,eS,z1,z2,z3,z4,z5,z6,z7⟩:=srch;rw[eS];obtain ⟨m1,s,e1,k1,g1,g2,g3,g4⟩:=S33 hL hc (l:=pre++(A++(B++post))) (pp:=mid+mm - 1) (lo:=lo) (hi:=hi) (by omega) (by omega) (by omega) (ni a) (ni mm) (ni b) (ni mid) (ni (mid+mm)) (vZ (aE ae.P f166.results.toList)) _ lo hi m rfl (aR _) z2 (aR _) (.inl rfl) (.inl rfl) h;dsimp only at g3 g4;rw[e1,mE0,nD (by omega) (by omega),aa];obtain ⟨e,he⟩:∃ e,e=mid+mm - s:=⟨_,rfl⟩;rw[<- he];have eA:A.take (s - a)++A.drop (s - a)=A:=oB _ _;have eB:B.take (e - mm)++B.drop (e - mm)=B:=oB _ _;have tA:(A.take (s - a)).length=s - a:=by rw[jV];omega
    have dA:(A.drop (s - a)).length=mm - s:=by rw[rf];omega
    have tB:(B.take (e - mm)).length=e - mm:=by rw[jV];omega
    have dB:(B.drop (e - mm)).length=b - e:=by rw[rf];omega
    have b1:∀ x∈A.take (s - a),∀ y∈B.drop (e - mm),f x<=f y:=by
     by_cases hs:s=a
     ·rw[show s - a=0 by omega];simp
     ·by_cases Ew:e=b
      ·rw[jq (show B.length<=e - mm by omega)];simp
      ·have hne:s≠lo:=by omega
       have:=g3.resolve_left hne;rw[DX (i:=s - 1 - a) (by omega) (by omega),DY (i:=e - mm) (by omega) (by omega)] at this;intro x hx y hy;have u1:=cP.le_take sA (s:=s - a) (c:=f (A.getD (s - 1 - a) 0)) (by omega) (.inr (by rw[show s - a - 1=s - 1 - a by omega];exact q8 _)) x hx;have u2:=cP.ge_drop sB (s:=e - mm) (c:=f (B.getD (e - mm) 0)) (.inr (q8 _)) y hy;omega
    have b2:∀ x∈B.take (e - mm),∀ y∈A.drop (s - a),f x<=f y:=by
     by_cases hs:s=mm
     ·rw[jq (show A.length<=s - a by omega)];simp
     ·by_cases Ew:e=mm
      ·rw[show e - mm=0 by omega];simp
      ·have hne:s≠hi:=by omega
       have:=g4.resolve_left hne;rw[DX (i:=s - a) (by omega) (by omega),DY (i:=e - 1 - mm) (by omega) (by omega)] at this;intro x hx y hy;have u1:=cP.le_take sB (s:=e - mm) (c:=f (B.getD (e - 1 - mm) 0)) (by omega) (.inr (by rw[show e - mm - 1=e - 1 - mm by omega];exact q8 _)) x hx;have u2:=cP.ge_drop sA (s:=s - a) (c:=f (A.getD (s - a) 0)) (.inr (q8 _)) y hy;omega
    have k1':SD m0 nm N L m1 ((pre++A.take (s - a))++(A.drop (s - a)++(B.take (e - mm)++(B.drop (e - mm)++post)))):=by
     rw[<- gd (B.take (e - mm)),eB,gd,<- gd (A.take (s - a)),eA];exact k1
    have turn:∃ m2,((ag .other .lss (ni s) (ni mm)).bind fun v2=>aw v2 ((ag .other .lss (ni mm) (ni e)).bind fun v3=>aw v3 ((AC ae 186 [.arr nm 0 L none,ni s,ni mm,ni e,.fn 67 [p]] m1).bind fun r=>xi (.arr nm 0 L none) (ni a) (ni s) (ni mid) (ni e) (ni b) (.fn 67 [p]) r.2) (xi (.arr nm 0 L none) (ni a) (ni s) (ni mid) (ni e) (ni b) (.fn 67 [p]) m1)) (xi (.arr nm 0 L none) (ni a) (ni s) (ni mid) (ni e) (ni b) (.fn 67 [p]) m1))=xi (.arr nm 0 L none) (ni a) (ni s) (ni mid) (ni e) (ni b) (.fn 67 [p]) m2/\SD m0 nm N L m2 ((pre++A.take (s - a))++(B.take (e - mm)++(A.drop (s - a)++(B.drop (e - mm)++post)))):=by
     rw[bc,aa,aA]
     by_cases hs:s < mm
     ·rw[an (by omega),bc,aa,aA]
      by_cases Ew:mm < e
      ·rw[an (by omega)];obtain ⟨m2,er,k2⟩:=qaB hL (.fn 67 [p]) (uM (by omega)) (uM (by omega)) k1' (a:=s) (mm:=mm) (b:=e) (by rw[aI,tA];omega) (by omega) (by omega);exact ⟨m2,by rw[er,aa],k2⟩
      ·rw[aj (by omega)];refine ⟨m1,rfl,?_⟩;rw[show B.take (e - mm)=[] from ou (by omega)] at k1' ⊢;simpa using k1'
     ·rw[aj (by omega)];refine ⟨m1,rfl,?_⟩;rw[show A.drop (s - a)=[] from ou (by omega)] at k1' ⊢;simpa using k1'
    obtain ⟨m2,et,k2⟩:=turn;rw[et];have s1:cP f (A.take (s - a)):=C8 (List.take_sublist _ _) sA;have s2:cP f (A.drop (s - a)):=C8 (List.drop_sublist _ _) sA;have s3:cP f (B.take (e - mm)):=C8 (List.take_sublist _ _) sB;have s4:cP f (B.drop (e - mm)):=C8 (List.drop_sublist _ _) sB;obtain ⟨m3,M1,e3,k3,p3,r3⟩:=Yy (ih (mid - a) (by omega)) (pre:=pre) (A:=A.take (s - a)) (B:=B.take (e - mm)) (post:=A.drop (s - a)++(B.drop (e - mm)++post)) (m:=m2) (a:=a) (mm:=s) (b:=mid) (by omega) s1 s3 (by simpa using k2) ha (by omega) (by omega) (fun q=>EO (.arr nm 0 L none) (ni mid) (ni e) (ni b) (.fn 67 [p]) q);have e3:xi (.arr nm 0 L none) (ni a) (ni s) (ni mid) (ni e) (ni b) (.fn 67 [p]) m2=EO (.arr nm 0 L none) (ni mid) (ni e) (ni b) (.fn 67 [p]) m3:=e3;rw[e3];have lM1:M1.length=mid - a:=by rw[p3.length_eq,aI];omega
    obtain ⟨m4,M2,e4,k4,p4,r4⟩:=Yy (ih (b - mid) (by omega)) (pre:=pre++M1) (A:=A.drop (s - a)) (B:=B.drop (e - mm)) (post:=post) (m:=m3) (a:=mid) (mm:=e) (b:=b) (by omega) s2 s4 (by simpa using k3) (by rw[aI];omega) (by omega) (by omega) (fun q=>some ((.tup []:AV),q));obtain ⟨w1,w2⟩:=cP.both (by rw[eA];exact sA) (by rw[eB];exact sB) b1 b2 p3 p4 r3 r4;rw[eA,eB] at w2;exact ⟨m4,M1++M2,e4,by simpa using k4,w2,w1⟩
theorem qhF (hL:L<=100000) (hc:qx m0 nm N p f):∀ (k:Nat) (F R:List Nat) (m:af),R.length=k->Full f 20 F->SD m0 nm N L m (F++R) ->
  ∃ (m':af) (l':List Nat),CP (.arr nm 0 L none) (ni L) (.fn 67 [p]) (.int .i64 20) (ni F.length) (ni (F.length+20)) m (FR (aE ae.P f125.results.toList))=wg (.arr nm 0 L none) (ni L) (.fn 67 [p]) (.int .i64 20) m' (xX (aE ae.P f125.results.toList))/\SD m0 nm N L m' l'/\l'.Perm (F++R)/\Runs f 20 l':=by
 intro k
 induction k using Nat.strongRecOn with
 | ind k ih=>
  intro F R m hk hF h;have hl:=h.hl;simp only[aI] at hl
  by_cases hb:20<=R.length
  ·have tX:(R.take 20).length=20:=by rw[jV];omega
   obtain ⟨m1,X',e1,k1,p1,s1⟩:=Qg hL hc (pre:=F) (X:=R.take 20) (post:=R.drop 20) (m:=m) (by rw[oB];exact h) (a:=F.length) (b:=F.length+20) rfl (by omega);have lX:X'.length=20:=by rw[p1.length_eq];exact tX
   obtain ⟨m',l',e2,k2,p2,r2⟩:=ih (R.drop 20).length (by rw[rf];omega) (F++X') (R.drop 20) m1 rfl (.more F X' hF lX s1) (by simpa using k1)
   refine ⟨m',l',?_,k2,p2.trans ?_,r2⟩
   ·rw[QU,sr,aa,aA,an (by omega),e1,aa,show (AV.int .i64 20)=ni 20 from rfl,kS (by omega),aa];rw[aI,lX] at e2;exact e2
   ·rw[gd];refine C9 F ?_;have:=p1.append_right (R.drop 20)
    rwa [oB] at this
  ·obtain ⟨m1,X',e1,k1,p1,s1⟩:=Qg hL hc (pre:=F) (X:=R) (post:=[]) (m:=m) (by simpa using h) (a:=F.length) (b:=L) rfl (by omega);refine ⟨m1,F++X',?_,by simpa using k1,C9 F p1,hF.runs _ (.last _ (by rw[p1.length_eq];omega) s1)⟩;rw[QU,sr,aa,aA,aj (by omega),qbF,e1,aa]
theorem qhG (hL:L<=100000) (hc:qx m0 nm N p f) {bs:Nat} (nr:0 < bs) (pM:bs < L):∀ (k:Nat) (F R:List Nat) (m:af),R.length=k->Full f (2 * bs) F->Runs f bs R->SD m0 nm N L m (F++R) ->
  ∃ (m':af) (l':List Nat),GB (.arr nm 0 L none) (ni L) (.fn 67 [p]) (ni bs) (ni F.length) (ni (F.length+2 * bs)) m (Kl (xX (aE ae.P f125.results.toList)))=wg (.arr nm 0 L none) (ni L) (.fn 67 [p]) (ni (bs * 2)) m' (xX (aE ae.P f125.results.toList))/\SD m0 nm N L m' l'/\l'.Perm (F++R)/\Runs f (2 * bs) l':=by
 intro k
 induction k using Nat.strongRecOn with
 | ind k ih=>
  intro F R m hk hF hR h;have hl:=h.hl;simp only[aI] at hl;have e2i:(AV.int .i64 2)=ni 2:=rfl
  by_cases hb:2 * bs<=R.length
  ·obtain ⟨x1,R1,rfl,lx1,sx1,It⟩:=hR.two nr (by omega);simp only[aI] at hb hl
   obtain ⟨x2,R2,rfl,lx2,sx2,Vu⟩:∃ x r,R1=x++r/\x.length=bs/\cP f x/\Runs f bs r:=by
    by_cases hq:bs < R1.length
    ·exact It.two nr hq
    ·exact ⟨R1,[],by simp,by omega,It.one (by omega),.last [] (by simp) List.Pairwise.nil⟩
   obtain ⟨m1,M,e1,k1,p1,s1⟩:=Qh hL hc _ F x1 x2 R2 m F.length (F.length+bs) (F.length+2 * bs) rfl (uM (by omega)) (uM (by omega)) sx1 sx2 (by simpa using h) rfl (by omega) (by omega);have lM:M.length=2 * bs:=by rw[p1.length_eq,aI];omega
   obtain ⟨m',l',e2,k2,p2,r2⟩:=ih R2.length (by rw[<- hk];simp;omega) (F++M) R2 m1 rfl (.more F M hF lM s1) Vu (by simpa using k1);simp only[aI] at hl
   refine ⟨m',l',?_,k2,p2.trans ?_,r2⟩
   ·rw[QW,sr,aa,aA,an (by omega),kS (by omega),aa,e1,aa,e2i,wC,show ((2:Nat):Int) * (bs:Nat)=((2 * bs:Nat):Int) by omega,iQ (by omega) (by omega),aa,kS (by omega),aa];rw[aI,lM] at e2;exact e2
   ·rw[gd,<- gd x1];exact C9 F (p1.append_right R2)
  ·have e2m:ag .other .mul (ni bs) (.int .i64 2)=some (ni (bs * 2)):=by
    rw[e2i,wC,show (bs:Int) * (2:Nat)=((bs * 2:Nat):Int) by omega,iQ (by omega) (by omega)]
   rw[QW,sr,aa,aA,aj (by omega),qbL,kS (by omega),aa,bc,aa,aA,e2m]
   by_cases hq:bs < R.length
   ·rw[an (by omega)];obtain ⟨x1,R1,rfl,lx1,sx1,It⟩:=hR.two nr hq;simp only[aI] at hb hl hq;obtain ⟨m1,M,e1,k1,p1,s1⟩:=Qh hL hc _ F x1 R1 [] m F.length (F.length+bs) L rfl (uM (by omega)) (uM (by omega)) sx1 (It.one (by omega)) (by simpa using h) rfl (by omega) (by omega);refine ⟨m1,F++M,?_,by simpa using k1,C9 F p1,hF.runs _ (.last _ (by rw[p1.length_eq,aI];omega) s1)⟩;rw[e1,aa,aa]
   ·rw[aj (by omega)];exact ⟨m,F++R,by rw[aa],h,List.Perm.refl _,hF.runs _ (.last _ (by omega) (hR.one (by omega)))⟩
theorem qhH (hL:L<=100000) (hc:qx m0 nm N p f):∀ (k bs:Nat) (l:List Nat) (m:af),L - bs=k->0 < bs->bs < 1000000->Runs f bs l->SD m0 nm N L m l ->
  ∃ (m':af) (l':List Nat),wg (.arr nm 0 L none) (ni L) (.fn 67 [p]) (ni bs) m (xX (aE ae.P f125.results.toList))=some (.tup [],m')/\SD m0 nm N L m' l'/\l'.Perm l/\cP f l':=by
 intro k
 induction k using Nat.strongRecOn with
 | ind k ih=>
  intro bs l m hk h0 hbb hR h
  by_cases hb:bs < L
  ·obtain ⟨m1,l1,e1,k1,p1,r1⟩:=qhG hL hc h0 hb _ [] l m rfl .nil hR (by simpa using h);obtain ⟨m',l',e2,k2,p2,s2⟩:=ih (L - bs * 2) (by omega) (bs * 2) l1 m1 rfl (by omega) (by omega) (by rw[cO];exact r1) k1;refine ⟨m',l',?_,k2,p2.trans (by simpa using p1),s2⟩;rw[QV,bc,aa,aA,an (by omega),show (AV.int .i64 2)=ni 2 from rfl,wC,show ((2:Nat):Int) * (bs:Nat)=((0+2 * bs:Nat):Int) by omega,iQ (by omega) (by omega),aa];rw[<- e2];exact e1
  ·refine ⟨m,l,?_,h,List.Perm.refl _,hR.one (by rw[h.hl];omega)⟩;rw[QV,bc,aa,aA,aj (by omega),qbH]
theorem A66 (hL:L<=100000) (hc:qx m0 nm N p f) {l:List Nat} {m:af} (h:SD m0 nm N L m l):∃ (m':af) (l':List Nat),AC ae 66 [.arr nm 0 L none,.fn 67 [p]] m=some (.tup [],m')/\SD m0 nm N L m' l'/\l'.Perm l/\cP f l':=by
 obtain ⟨m1,l1,e1,k1,p1,r1⟩:=qhF hL hc _ [] l m rfl .nil (by simpa using h);obtain ⟨m',l',e2,k2,p2,s2⟩:=qhH hL hc _ 20 l1 m1 rfl (by omega) (by omega) r1 k1;refine ⟨m',l',?_,k2,p2.trans (by simpa using p1),s2⟩;have e1:CP (.arr nm 0 L none) (ni L) (.fn 67 [p]) (.int .i64 20) (.int .i64 0) (.int .i64 20) m (FR (aE ae.P f125.results.toList))=_:=e1;have e2:wg (.arr nm 0 L none) (ni L) (.fn 67 [p]) (.int .i64 20) m1 (xX (aE ae.P f125.results.toList))=_:=e2;rw[T66,show aK false (.arr nm 0 L none)=some (ni L) from rfl,aa,qgt,e1,e2,aa]
end
end Go.Ab
namespace Go.Ab
noncomputable section
open Go.Proofs.Tryz
theorem T65 (a0 a1:AV) (m:af):AC ae 65 [a0,a1] m=(cS none none m a0).bind fun r1=>(ai none (az none r1.2 (.obj true [aq])).2 r1.1).bind fun v2=>(iB v2).bind fun v3=>(aP 1 v3).bind fun v4=>(ai none (az none r1.2 (.obj true [aq])).2 v4).bind fun v5=>(aK false v5).bind fun v6=>(jc none 4 none (.bool false) 1 (az none r1.2 (.obj true [aq])).2 v6 v6).bind fun r7=>(aM none (az none r7.2 (.obj true [aq])).2 (.ptr (az none r7.2 .resv).1 0) r7.1).bind fun m8=>(aM none (az none m8 (.obj true [.nilf])).2 (.ptr (az none m8 .resv).1 0) (.fn 124 [(.ptr (az none r7.2 .resv).1 0),r1.1,(.ptr (az none m8 .resv).1 0),(.ptr (az none r1.2 .resv).1 0)])).bind fun m9=>(ai none m9 (.ptr (az none m8 .resv).1 0)).bind fun v10=>(lH v10).bind fun g11=>j7 ae 65 (AP ae) (AC ae) none g11.1 ([a1]++g11.2) m9 fun v12 m13=>(ai none m13 (.ptr (az none r1.2 .resv).1 0)).bind fun bg=>some (bg,m13):=
(bj ae 65 [a0,a1] m (fn:=f65) (c:=aB f65) qj7 rfl).trans (by kernel_rfl)
def K9 (x0 x4:AV) (m:af):St:=⟨(x0::aJ (aG (x4::bw (aX (aO (aJ (aG []))))))),m⟩
def CO (x0 x3 x4 b7 b9 cB:AV) (m:af) (K:KT):OM:=bX 124 (b6 (c2 (c2 (aB f124)))) 3 (x0::aJ (x3::x4::bw (aG (b7::b9::cB::aX (aJ (aG [])))))) m K
abbrev qbA (K:KT):KT:=bF 124 (c2 (c2 (c2 (aB f124)))) K
abbrev qbB (K:KT):KT:=bu 0 (qbA K)
abbrev CC (K:KT):KT:=(qbB K)
theorem SB (a0 a1 a2 a3 a4:AV) (m:af):AC ae 124 [a0,a1,a2,a3,a4] m=(ai none m a1).bind fun v1=>(aF none v1 a0).bind fun v2=>(ai none m v2).bind fun v3=>aw v3 (some ((.tup []),m)) ((ai none m a1).bind fun v4=>(aF none v4 a0).bind fun v5=>(aM none m v5 (.bool true)).bind fun m6=>(ai none m6 a2).bind fun v7=>(iB v7).bind fun v8=>(aP 1 v8).bind fun v9=>(ai none m6 v9).bind fun v10=>(aF (some 3) v10 a0).bind fun v11=>(aP 1 v11).bind fun v12=>(ai none m6 v12).bind fun bh=>(aK false bh).bind fun bg=>CO a0 a3 a4 bh bg (.int .i64 0) m6 (CC (aE ae.P f124.results.toList))):=
(bj ae 124 [a0,a1,a2,a3,a4] m (fn:=f124) (c:=aB f124) qiR rfl).trans (by kernel_rfl)
theorem QT (x0 x3 x4 b7 b9 cB:AV) (m:af) (K:KT):CO x0 x3 x4 b7 b9 cB m K=(ag .other .lss cB b9).bind fun v1=>aw v1 ((aF none b7 cB).bind fun v2=>(ai none m v2).bind fun v3=>(ai none m x3).bind fun v4=>(lH v4).bind fun g5=>j7 ae 124 (AP ae) (AC ae) none g5.1 ([v3]++g5.2) m fun v6 m7=>(ag .other .add cB (.int .i64 1)).bind fun v8=>CO x0 x3 x4 b7 b9 v8 m7 K) (K (.exit 0) (K9 x0 x4 m)):=
(bW (bP _) _ _ _).trans (by kernel_rfl)
theorem qbC (x0 x4:AV) (m:af):CC (aE ae.P f124.results.toList) (.exit 0) (K9 x0 x4 m)=(ai none m x4).bind fun v1=>(dH none [x0]).bind fun v2=>(ck none true 3 none 8 m v1 v2).bind fun r3=>(aM none r3.2 x4 r3.1).bind fun m4=>some ((.tup []),m4):=by kernel_rfl
theorem qgi (a0:AV) (m:af):AC ae 106 [a0] m=(cS none (some 3) m a0).bind fun r1=>(aP 2 r1.1).bind fun v2=>(ai none r1.2 v2).bind fun v3=>(aP 0 r1.1).bind fun v4=>(ai none r1.2 v4).bind fun v5=>(ag .other .lss v5 (.int .i64 0)).bind fun v6=>some ((.tup [v3,v6]),r1.2):=
(bj ae 106 [a0] m (fn:=f106) (c:=aB f106) qiC rfl).trans (by kernel_rfl)
end
end Go.Ab
namespace Go.Ab
open Go.Proofs Go.Proofs.Tryz
theorem mW {m:af} {nm:Nat} {b:Bool} {v:AV} (h:m.get nm=some (.obj b [v])):ai none m (.ptr nm 0)=some v:=by
 rw[bV,h,kh,aa];rfl
theorem qpM {m:af} {nm:Nat} {b:Bool} {v0 v:AV} (h:m.get nm=some (.obj b [v0])) (hv:cU none v=true) (hc:v.cells=[v]):aM none m (.ptr nm 0) v=some (m.set nm (some (.obj b [v]))):=by
 rw[qt,h,kh,aa];simp[cK,Sh.size,hv,bJ,hc]
theorem qnH {m:af} {nm i:Nat} {ds:List Bool} (h:m.get nm=some (.obj false (ds.map .bool))) (hi:i < ds.length):ai none m (.ptr nm i)=some (.bool (ds.getD i false)):=by
 rw[bV,h,kh,aa,uZ,re,bM hi,aT,bM hi];rfl
theorem qpL {m:af} {nm i:Nat} {ds:List Bool} {y:Bool} (h:m.get nm=some (.obj false (ds.map .bool))) (hi:i < ds.length):aM none m (.ptr nm i) (.bool y)=some (m.set nm (some (.obj false ((ds.set i y).map .bool)))):=by
 have hg:m.obj? nm=some (false,ds.map .bool):=by rw[qm,h];rfl
 have h1:i+1<=ds.length:=hi;simp only[aM,hg,aa,Sh.size,cg,h1,bz,cU,dG,AV.cells];congr 4;simp only[bJ,aL,aQ];rw[List.map_set,De];simp[hi,AI,List.map_drop]
theorem U0 (a b c:AV):aP 1 (.vptr [a,b,c])=some (.vptr [b,c]):=rfl
theorem MW (a b c:AV):aP 0 (.vptr [a,b,c])=some (.vptr [a,b,c]):=rfl
theorem f2v (a b c:AV):aP 2 (.vptr [a,b,c])=some (.vptr [c]):=rfl
theorem Xh (m:af) (a b:AV):ai none m (.vptr [a,b])=some a:=rfl
theorem EZ (s:Nat) (m:af) (e:Ent):az (some s) m e=(s,m.set s (some e)):=rfl
inductive GA (m:af):AV->List Nat->List Nat->Prop
 | none:GA m aq [] []
 | some (t:Nat) (l:List Nat) (h:m.get t=some (.obj false (ds l))) (hne:l≠[]):GA m (.arr t 0 l.length none) l [t]
theorem Vd {m m':af} {x:AV} {l T:List Nat} (h:GA m x l T) (hm:∀ y∈T,m'.get y=m.get y):GA m' x l T:=by
 cases h with
 | none=>exact .none
 | some t l h hne=>exact .some t l ((hm t (by simp)).trans h) hne
theorem Ve {m:af} {x:AV} {l T:List Nat} (h:GA m x l T):cU none x=true/\x.cells=[x]:=by
 cases h<;>exact ⟨rfl,rfl⟩
theorem qlT {m:af} {x:AV} {l T:List Nat} (h:GA m x l T) (hl:l.length<=100000) (v:Nat):∃ x' m' T',ck none true 3 none 8 m x (.lst none false .full [ni v])=some (x',m')/\GA m' x' (l++[v]) T'/\Fr m m' T/\Gr m T T':=by
 cases h with
 | none=>
  have ha:ck none true 3 none 8 m aq (.lst none false .full [ni v])=some (.arr m.length 0 1 none,m++[some (.obj false [ni v])]):=by
   simp only[ck,aQ,aL,br,bz,or_true,bQ,az]
   rfl
  refine ⟨_,_,[m.length],ha,.some m.length [v] (by rw[bG rfl];rfl) (by simp),Fr.app m _ _,fun k hk=>?_⟩;obtain rfl:k=m.length:=by simpa using hk
  exact .inr (aR _)
 | some t l hg hne=>
  have jb:=ye.2 hne;have gE:=bC hg;have ho:m.obj? t=some (false,ds l):=by rw[qm,hg];rfl
  have hY:zO m none (.lst none false .full [ni v])=some (1,[ni v]):=rfl
  have hX:xC m none (.arr t 0 l.length none)=some (l.length,ds l,m.set t none):=by
   simp only[xC,ho,aa];rw[an ⟨trivial,trivial,jb,trivial,by simp[Sh.size,MQ]⟩]
  have ha:ck none true 3 none 8 m (.arr t 0 l.length none) (.lst none false .full [ni v])=some (.arr (m.set t none).length 0 (l.length+1) none,m.set t none++[some (.obj false (ds l++[ni v]))]):=by
   simp only[ck,uU,hY,hX,aa];rw[an (show (l.length+1) * 8<=gS by unfold gS;omega)]
  have e:ds l++[ni v]=ds (l++[v]):=by simp[ds]
  have e2:l.length+1=(l++[v]).length:=by simp
  refine ⟨_,_,[(m.set t none).length],by rw[ha,e,e2],.some _ (l++[v]) (by rw[bG rfl]) (by simp),((Fr.refl m [t]).set _ (.inl (by simp))).snoc _,fun k hk=>?_⟩;obtain rfl:k=(m.set t none).length:=by simpa using hk
  exact .inr (by simp)
structure LS (m0 m:af) (b s:Nat) (sb:List Bool) (out:List Nat) (x:AV) (T:List Nat):Prop where
 hb:b=m0.length
 fr:Fr m0 m []
 h0:m.get b=some (.obj true [.ptr s 0])
 h1:m.get (b+1)=some (.obj true [x])
 h2:m.get (b+2)=some (.obj false (sb.map .bool))
 h3:m.get (b+3)=some (.obj true [.arr (b+2) 0 sb.length none])
 h4:m.get (b+4)=some (.obj true [.fn 124 [.ptr (b+3) 0,.ptr b 0,.ptr (b+4) 0,.ptr (b+1) 0]])
 gr:GA m x out T
 hT:∀ y∈T,b+5<=y
theorem s6:∀ (n:Nat) (l:List Nat),l.Nodup->(∀ x∈l,x < n)->l.length<=n
 | 0,[],_,_=>aR _
 | 0,x::l,_,h=>by have:=h x fQ;omega
 | n+1,l,hn,h=>by
  by_cases hm:n∈l
  ·have e:=List.length_erase_of_mem hm
   have:=s6 n (l.erase n) (hn.erase n) fun x hx=>by
    have h1:=(hn.mem_erase_iff).1 hx;have:=h x h1.2;have:=h1.1;omega
   omega
  ·have:=s6 n l hn fun x hx=>by
    have h1:=h x hx;have:x≠n:=fun e=>hm (e▸hx);omega
   omega
section
variable {m0:af} {b s:Nat} {F:List Nat} {arms:AV} {most:Int} {l:List ND} {ar:List Int}
def Qp (l:List ND) (m0:af) (b s id:Nat):Prop:=∀ (m:af) (sb:List Bool) (out:List Nat) (x:AV) (T:List Nat),LS m0 m b s sb out x T->sb.length=l.length->Cl l out->(∀ i,i<=id->sb.getD i false=decide (i∈out)) ->
 ∃ (m':af) (sb':List Bool) (x':AV) (T':List Nat),AC ae 124 [.int .i64 id,.ptr (b+3) 0,.ptr b 0,.ptr (b+4) 0,.ptr (b+1) 0] m=some (.tup [],m')/\LS m0 m' b s sb' (Vi l id out) x' T'/\sb'.length=l.length /\
  (∀ i,i<=id->sb'.getD i false=decide (i∈Vi l id out))/\∀ i,id < i->sb'.getD i false=sb.getD i false
theorem qqI (g:GoodL ar l) {id:Nat} (hid:id < l.length) (dd:l.length<=100000) (ih:∀ k,k < id->Qp l m0 b s k) {z:Bool} {o:Own} {kids:List Int} (hk:∀ k∈kids,∃ t:Nat,k=t/\t < id) (fI:kids.length<=1000):∀ (j i:Nat) (m:af) (sb:List Bool) (out:List Nat) (x:AV) (T:List Nat),i+j=kids.length->LS m0 m b s sb out x T->sb.length=l.length->Cl l out->(∀ i,i < id->sb.getD i false=decide (i∈out)) ->
  ∃ (m':af) (sb':List Bool) (x':AV) (T':List Nat),CO (.int .i64 id) (.ptr (b+4) 0) (.ptr (b+1) 0) (IA z o kids) (.int .i64 kids.length) (.int .i64 i) m (CC (aE ae.P f124.results.toList))=CC (aE ae.P f124.results.toList) (.exit 0) (K9 (.int .i64 id) (.ptr (b+1) 0) m') /\
   LS m0 m' b s sb' (iz l (kids.drop i) out) x' T'/\sb'.length=l.length/\(∀ i,i < id->sb'.getD i false=decide (i∈iz l (kids.drop i) out)\/True)/\(∀ q,q < id->sb'.getD q false=decide (q∈iz l (kids.drop i) out))/\∀ q,id<=q->sb'.getD q false=sb.getD q false:=by
 intro j
 induction j with
 | zero=>
  intro i m sb out x T hi h mQ hc w8
  refine ⟨m,sb,x,T,?_,?_,mQ,fun _ _=>.inr trivial,?_,fun _ _=>rfl⟩
  ·rw[QT,bc,aa,aA,aj (by omega)]
  ·rw[jq (by omega)];exact h
  ·rw[jq (by omega)];exact w8
 | succ j ihj=>
  intro i m sb out x T hi h mQ hc w8;have cm:i < kids.length:=by omega
  obtain ⟨t,et,ht⟩:=hk _ (bI cm);obtain ⟨m1,sb1,x1,T1,e1,k1,k2,k3,k4⟩:=ih t ht m sb out x T h mQ hc (fun q hq=>w8 q (by omega));obtain ⟨c1,c2,r,c3,c4⟩:=rr g t (by omega) out hc
  have qm7:∀ q,q < id->sb1.getD q false=decide (q∈Vi l t out):=fun q hq=>by
   by_cases hqt:q<=t
   ·exact k3 q hqt
   ·rw[k4 q (by omega),w8 q hq];refine jL.2 ⟨fun hh=>by rw[c3];exact AJ _ hh,fun hh=>?_⟩;rw[c3] at hh
    rcases iy.1 hh with hh | hh
    ·exact hh
    ·have:=c4 q hh;omega
  obtain ⟨m',sb',x',T',e2,n1,n2,_,n3,n4⟩:=ihj (i+1) m1 sb1 (Vi l t out) x1 T1 (by omega) k1 k2 c1 qm7
  have ed:iz l (kids.drop i) out=iz l (kids.drop (i+1)) (Vi l t out):=by
   rw[kr cm,DA,et,cH]
  refine ⟨m',sb',x',T',?_,by rw[ed];exact n1,n2,fun _ _=>.inr trivial,by rw[ed];exact n3,fun q hq=>by rw[n4 q hq,k4 q (by omega)]⟩;have e1:AC ae 124 ([.int .i64 kids[i]]++[.ptr (b+3) 0,.ptr b 0,.ptr (b+4) 0,.ptr (b+1) 0]) m=some (.tup [],m1):=by rw[et];exact e1
  rw[QT,bc,aa,aA,an (by omega),jY cm,aa,gy,aa,mW h.h4,aa,show lH (.fn 124 [.ptr (b+3) 0,.ptr b 0,.ptr (b+4) 0,.ptr (b+1) 0])=some (124,[.ptr (b+3) 0,.ptr b 0,.ptr (b+4) 0,.ptr (b+1) 0]) from rfl,aa,tK rfl rfl rfl,e1,aa,cr (by omega),aa];exact e2
theorem A75 (h0:c9 m0 s F arms most l) (hb:b=m0.length) (g:GoodL ar l) (dd:l.length<=100000):∀ id,id < l.length->Qp l m0 b s id:=by
 intro id
 induction id using Nat.strongRecOn with
 | ind id ih=>
  intro hid m sb out x T h mQ hc w8;have IX:=w8 id (aR _);have ld3:=mW h.h3;have NT:aF none (.arr (b+2) 0 sb.length none) (.int .i64 id)=some (.ptr (b+2) id):=ga (by omega);have st:=h0.app h.fr;obtain ⟨p,na,TT,st,_⟩:=st;have hs:=st.hs;have y6:=EX st.hn hid;have lb:=qnH h.h2 (i:=id) (by omega);have b2:=bC h.h2;have b4:=bC h.h4
  have hsm:s < m0.length:=by
   obtain ⟨p,na,TT,st0,_⟩:=h0;exact bC st0.hs
  by_cases hm:id∈out
  ·rw[eE hm] at IX
   refine ⟨m,sb,x,T,?_,?_,mQ,?_,fun _ _=>rfl⟩
   ·rw[SB,ld3,aa,NT,aa,lb,aa,IX,iV]
   ·rw[tI g hid,an hm];exact h
   ·rw[tI g hid,an hm];exact w8
  ·rw[cT hm] at IX;have sbq:=qpL (y:=true) h.h2 (i:=id) (by omega)
   have h':LS m0 (m.set (b+2) (some (.obj false ((sb.set id true).map .bool)))) b s (sb.set id true) out x T:=by
    refine ⟨hb,h.fr.set _ (.inr (by omega)),?_,?_,?_,?_,?_,?_,h.hT⟩
    ·rw[cw (by omega)];exact h.h0
    ·rw[cw (by omega)];exact h.h1
    ·exact cL rfl b2
    ·rw[cw (by omega),a8];exact h.h3
    ·rw[cw (by omega)];exact h.h4
    ·exact Vd h.gr fun y hy=>cw (by have:=h.hT y hy;omega)
   have qm6:∀ q,q < id->(sb.set id true).getD q false=decide (q∈out):=fun q hq=>by
    rw[aT,Hd (by omega),<- aT];exact w8 q (by omega)
   have Bp:=uj (st.ok _ (bI hid))
   have fI:l[id].kids.length<=1000:=by
    rcases st.ok _ (bI hid) with ⟨_,h2,_⟩ | ⟨_,_,_,_,h5⟩
    ·rw[h2];simp
    ·omega
   obtain ⟨m1,sb1,x1,T1,e1,k1,k2,_,k3,k4⟩:=qqI g hid dd (fun k hk=>ih k hk (by omega)) (z:=kz l[id]) (o:=ko l[id]) (kids:=l[id].kids) (fun k hk=>pP g hid k hk) fI l[id].kids.length 0 _ _ out x T (by omega) h' (by rw[a8];exact mQ) hc qm6;rw[jI] at k1 k3;obtain ⟨c1,c2,r,c3,c4⟩:=Mj g hid l[id].kids (fun k hk=>pP g hid k hk) out hc
   have gC:(iz l l[id].kids out).length<=l.length:=by
    exact s6 _ _ c1.nd c1.lt
   obtain ⟨x2,m2,T2,ea,g2,f2,gg2⟩:=qlT k1.gr (by omega) id;have hne:∀ q,q < b+5->q∉T1:=fun q hq hT=>by have:=k1.hT q hT;omega
   have ge:∀ q,q < b+5->m2.get q=m1.get q:=fun q hq=>f2.get q (by have:=bC k1.h4;omega) (hne q hq);have lP:=bC k1.h4;have qqO:=f2.len;have g21:m2.get (b+1)=some (.obj true [x1]):=by rw[ge _ (by omega)];exact k1.h1
   have eV:Vi l id out=iz l l[id].kids out++[id]:=by rw[tI g hid,aj hm]
   have sx:aM none m2 (.ptr (b+1) 0) x2=some (m2.set (b+1) (some (.obj true [x2]))):=qpM g21 (Ve g2).1 (Ve g2).2
   refine ⟨m2.set (b+1) (some (.obj true [x2])),sb1,x2,T2,?_,?_,k2,?_,?_⟩
   ·rw[SB,ld3,aa,NT,aa,lb,aa,IX,gO];rw[aa,NT,aa,sbq,aa,mW h'.h0,aa,nU,aa,cJ,aa]
    have ldna:ai none (m.set (b+2) (some (.obj false ((sb.set id true).map .bool)))) (.ptr s (0+1))=some na:=by
     rw[bV,cw (by omega),hs];rfl
    rw[ldna,aa,y6,aa,U0,aa,Xh,aa,Bp,iI,aa];have e1:CO (.int .i64 id) (.ptr (b+4) 0) (.ptr (b+1) 0) (IA (kz l[id]) (ko l[id]) l[id].kids) (.int .i64 l[id].kids.length) (.int .i64 0) (m.set (b+2) (some (.obj false ((sb.set id true).map .bool)))) (CC (aE ae.P f124.results.toList))=_:=e1;rw[e1,qbC,mW k1.h1,aa,ry,aa,ea,aa,sx,aa]
   ·rw[eV]
    refine ⟨hb,(Fr.trans k1.fr f2 fun y hy=>.inr (by have:=k1.hT y hy;omega)).set _ (.inr (by omega)),?_,?_,?_,?_,?_,?_,?_⟩
    ·rw[cw (by omega),ge _ (by omega)];exact k1.h0
    ·exact cL rfl (by omega)
    ·rw[cw (by omega),ge _ (by omega)];exact k1.h2
    ·rw[cw (by omega),ge _ (by omega)];exact k1.h3
    ·rw[cw (by omega),ge _ (by omega)];exact k1.h4
    ·refine Vd g2 fun y hy=>cw ?_
     rcases gg2 y hy with hh | hh
     ·have:=k1.hT y hh;omega
     ·omega
    ·intro y hy
     rcases gg2 y hy with hh | hh
     ·exact k1.hT y hh
     ·omega
   ·intro q hq;rw[eV]
    by_cases Wv:q=id
    ·subst Wv;rw[k4 q (aR _),aT,Da (by omega),eh];exact (eE (by simp)).symm
    ·rw[k3 q (by omega)];refine jL.2 ⟨fun hh=>AJ _ hh,fun hh=>?_⟩
     rcases iy.1 hh with hh | hh
     ·exact hh
     ·exact absurd (by simpa using hh) Wv
   ·intro q hq;rw[k4 q (by omega),aT,Hd (by omega),<- aT]
theorem qnY (m:af) (n:Nat) (h:n<=100000):jc none 4 none (.bool false) 1 m (.int .i64 n) (.int .i64 n)=some (.arr m.length 0 n none,m++[some (Ent.obj false ((List.replicate n false).map .bool))]):=by
 have h3:(n:Int) * 1<=281474976710656:=by omega
 have h4:(n:Int)<=9223372036854775807:=by omega
 have h5:(0:Int)<=n:=by omega
 simp only[jc,az,rU,q8,bz,cH,List.map_replicate];rw[an ⟨h5,trivial,h3,h4⟩]
theorem J9 (h0:c9 m0 s F arms most l) (g:GoodL ar l) (dd:l.length<=100000) {id:Nat} (hid:id < l.length):∃ (m':af) (x:AV) (T:List Nat),AC ae 65 [.ptr s 0,.int .i64 id] m0=some (x,m')/\GA m' x (Vi l id []) T/\Fr m0 m' []/\∀ y∈T,m0.length<=y:=by
 have hx:=h0;obtain ⟨p,na,TT,h,_⟩:=hx;have hs:=h.hs;have mQ:=bC hs
 have hlen:aK false na=some (.int .i64 l.length):=by
  cases h.hn with
  | none=>rfl
  | some t l ht=>rw[pn,cg]
 have mk:=fun m=>qnY m l.length dd;generalize hM:(List.set ((List.set (((m0++[some (Ent.obj true [.ptr s 0])])++[some (Ent.obj true [aq])])++[some (Ent.obj false ((List.replicate l.length false).map .bool))]++[some (Ent.obj true [aq])]) (m0.length+1+1+1) (some (Ent.obj true [.arr (m0.length+1+1) 0 l.length none])))++[some (Ent.obj true [.nilf])]) (m0.length+1+1+1+1) (some (Ent.obj true [.fn 124 [.ptr (m0.length+1+1+1) 0,.ptr m0.length 0,.ptr (m0.length+1+1+1+1) 0,.ptr (m0.length+1) 0]])))=M
 have ls:LS m0 M m0.length s (List.replicate l.length false) [] aq []:=by
  rw[<- hM]
  refine ⟨rfl,?_,(by simp (disch:=(first | assumption | omega | (simp only[aI,a8,aL,aQ];first | done | omega))) only[gR,bU,bG,cw,cL];first | done | rfl),(by simp (disch:=(first | assumption | omega | (simp only[aI,a8,aL,aQ];first | done | omega))) only[gR,bU,bG,cw,cL];first | done | rfl),(by simp (disch:=(first | assumption | omega | (simp only[aI,a8,aL,aQ];first | done | omega))) only[gR,bU,bG,cw,cL];first | done | rfl),?_,(by simp (disch:=(first | assumption | omega | (simp only[aI,a8,aL,aQ];first | done | omega))) only[gR,bU,bG,cw,cL];first | done | rfl),.none,by simp⟩
  ·exact ((((((Fr.app m0 _ _).snoc _).snoc _).snoc _).set _ (.inr (by omega))).snoc _).set _ (.inr (by omega))
  ·rw[uK];exact (by simp (disch:=(first | assumption | omega | (simp only[aI,a8,aL,aQ];first | done | omega))) only[gR,bU,bG,cw,cL];first | done | rfl)
 obtain ⟨m',sb',x',T',e,k1,_,_,_⟩:=A75 h0 rfl g dd id hid M (List.replicate l.length false) [] aq [] ls (by simp) sv (fun i hi=>by
  rw[aT,AF,an (by omega)];rfl)
 refine ⟨m',x',T',?_,k1.gr,k1.fr,fun y hy=>by have:=k1.hT y hy;omega⟩;rw[T65]
 repeat ((with_reducible (first | apply bs | apply dn));(focus (first | (simp (disch:=(first | assumption | omega | (simp only[aI,a8,aL,aQ];first | done | omega))) only[dj,beq_self_eq_true,cK,aa,Sh.size,bz,bJ,Nat.reduceAdd,Nat.reduceLeDiff,aR,hs,hlen,mk,oZ];first | done | rfl) | rfl));try dsimp only)
 have en:(az none (m0++[some (Ent.obj true [.ptr s 0])]) .resv).1=m0.length+1:=by simp[mX]
 rw[tK rfl rfl rfl,hM,List.singleton_append,e,aa,en];dsimp only;rw[mW k1.h1,aa]
end
end Go.Ab
namespace Go.Ab
open Go.Proofs Go.Proofs.Tryz
def pe:Nat->List Nat->List (AV×AV)
 | _,[]=>[]
 | k,i::l=>(.int .i64 i,.int .i64 k)::pe (k+1) l
theorem YD (n:Nat):∀ (l:List Nat) (k:Nat),pe k (l++[n])=pe k l++[(.int .i64 n,.int .i64 (k+l.length:Nat))]
 | [],k=>rfl
 | x::l,k=>by
  rw[b8,pe,pe,YD n l (k+1)];simp only[b8,aL];congr 5;omega
theorem YE:∀ (l:List Nat) (k:Nat),(pe k l).length=l.length
 | [],_=>rfl
 | _::l,k=>by rw[pe,aL,YE l,aL]
theorem Po {n:Nat}:∀ (l:List Nat) (k:Nat),(pe k l).find? (fun p=>jh p.1 (.int .i64 n))=if n∈l then some (.int .i64 n,.int .i64 (k+l.idxOf n:Nat)) else none
 | [],k=>rfl
 | x::l,k=>by
  have hk:jh (.int .i64 (x:Int)) (.int .i64 (n:Int))=decide (x=n):=by
   simp only[jh,uV,decide_true,iN];exact jL.2 (by omega)
  rw[pe,List.find?_cons,hk]
  by_cases he:x=n
  ·subst he;simp
  ·rw[cT he];simp only[];rw[Po l (k+1)];have:n∈x::l↔n∈l:=⟨fun h=>(gA.1 h).resolve_left (fun e=>he e.symm),fN _⟩
   by_cases hm:n∈l
   ·rw[an hm,an (this.2 hm),List.idxOf_cons,cond_eq_ite,aj (by simpa using he)];congr 3;omega
   ·rw[aj hm,aj (fun h=>hm (this.1 h))]
theorem W8 {n:Nat} (h:n<=1000000):jZ (.int .i64) (.int .i64 n)=true:=by
 have h1:IntKind.min .i64<=(n:Int):=by show (-9223372036854775808:Int)<=n;omega
 have h2:(n:Int)<=IntKind.max .i64:=by show (n:Int)<=9223372036854775807;omega
 simp only[jZ,nS,Ft,eE h1,eE h2,decide_true,pB]
theorem qnR {m:af} {p n:Nat} {l:List Nat} (hp:m.get p=some (.mp (.int .i64) (pe 0 l))) (hn:n<=1000000) (hm:n∈l) (z:AV):po (.int .i64) z m (.mref p) (.int .i64 n)=some (.int .i64 (l.idxOf n:Nat),true):=by
 have h1:my m (.int .i64) (.mref p)=some (p,pe 0 l):=by simp[my,hp]
 unfold po;rw[h1];simp only[aa,W8 hn,bz,BM,Po l 0,an hm,br]
theorem qqx {m:af} {p n:Nat} {l:List Nat} (hp:m.get p=some (.mp (.int .i64) (pe 0 l))) (hn:n<=1000000) (hm:n∉l) (hl:l.length<=100000):kU (.int .i64) m (.mref p) (.int .i64 n) (.int .i64 l.length)=some (m.set p (some (.mp (.int .i64) (pe 0 (l++[n]))))):=by
 have h1:my m (.int .i64) (.mref p)=some (p,pe 0 l):=by simp[my,hp]
 have h3:(pe 0 l).any (fun p=>jh p.1 (.int .i64 n))=false:=by
  have:=Po (n:=n) l 0;rw[aj hm,List.find?_eq_none] at this;rw[List.any_eq_false];exact this
 unfold kU;rw[h1,aa,an ⟨W8 hn,rfl,by rw[YE];unfold maxLen;omega⟩,YD];simp only[nX,h3,br]
theorem Pc {e:Nat} {m:af} {x:AV} {l:List ND} {T:List Nat} (h:NR e m x l T) (hl:l.length<=100000) (n:ND):∃ x' m' T',ck none false e (some 3) 40 m x (.lst (some 3) false .full [n.av])=some (x',m')/\NR e m' x' (l++[n]) T'/\Fr m m' T/\Gr m T T':=by
 have h2:(l.length+1) * 40<=gS:=by unfold gS;omega
 cases h with
 | none=>
  refine ⟨.lst (some 3) false (.tok m.length e) [n.av],m++[some (Ent.tok 1 3)],[m.length],?_,.some _ [n] (by simp (disch:=(first | assumption | omega | (simp only[aI,a8,aL,aQ];first | done | omega))) only[gR,bU,bG,cw,cL];first | done | rfl),Fr.app m _ _,fun k hk=>?_⟩
  ·have h2:40<=gS:=by unfold gS;omega
   simp[ck,h2,az,Sh.size]
  ·obtain rfl:k=m.length:=by simpa using hk
   exact .inr (aR _)
 | some t es ht=>
  have gE:=bC ht
  refine ⟨.lst (some 3) false (.tok t e) (l.map ND.av++[n.av]),m.set t (some (Ent.tok (l.length+1) 3)),[t],?_,?_,(Fr.refl m [t]).set _ (.inl (by simp)),Gr.refl _ _⟩
  ·simp[ck,ht,Sh.size,h2]
  ·have e3:l.map ND.av++[n.av]=(l++[n]).map ND.av:=by simp
   rw[e3];refine .some t (l++[n]) ?_;rw[cL rfl gE,aI];rfl
theorem ZQ {m:af} {x:AV} {ks:List Int} {T:List Nat} (h:GR 3 m x (ks.map (AV.int .i64)) T) {n:ND} (hk:n.kids=ks) (hn:n.ok) (hne:¬ n.var < 0->ks≠[]):∃ z o,x=.lst none z o (n.kids.map (AV.int .i64))/\qu (.lst none z o (n.kids.map (AV.int .i64)))=cE n:=by
 subst hk;generalize he:n.kids.map (AV.int .i64)=es at h
 cases h with
 | none=>
  refine ⟨true,.full,rfl,?_⟩;unfold cE
  rw[an]
  ·rfl
  ·refine Decidable.byContradiction fun hv=>hne hv (AH.1 he)
 | some t es ht IN=>
  refine ⟨false,.tok t 3,rfl,?_⟩;unfold cE
  rw[aj,he]
  ·rfl
  ·intro hv
   rcases hn with ⟨_,h2,_⟩ | ⟨h1,_⟩
   ·rw[h2] at he;exact IN he.symm
   ·omega
section
variable {m0:af} {s:Nat} {F:List Nat} {arms:AV} {most:Int} {l:List ND} {ar:List Int}
theorem qhY {pm c:Nat} {p:List Nat} {v leaf:Int} {kids:List Int} {x0:AV} (IQ:p.length<=100000) (hpb:∀ y∈p,y<=1000000) {m1:af} (hc:c < m1.length) (Bv:pm < m1.length) (hne:pm≠c) {z:Bool} {o:Own} (hk:∀ k∈kids,∃ t:Nat,k=t/\t∈p) (fI:kids.length<=1000) (hp:m1.get pm=some (.mp (.int .i64) (pe 0 p))) (x6 x7 b7 b9 cB:AV) (hx6:x6=.mref pm) (K:KT):∀ (j i:Nat) (m:af) (x:AV) (T:List Nat),i+j=kids.length->Fr m1 m [c]->m.get c=some (.obj true [.int .i64 v,x,.int .i64 leaf])->GR 3 m x (((kids.take i).map fun k=>((p.idxOf k.toNat:Nat):Int)).map (AV.int .i64)) T->(∀ y∈T,m1.length<=y) ->
  ∃ (m':af) (x':AV) (T':List Nat),CX x0 x6 x7 (.ptr c 0) b7 b9 cB (IA z o kids) (.int .i64 kids.length) (.int .i64 i) m (CD K)=CD K (.exit 2) (Ly x0 x6 x7 (.ptr c 0) b7 b9 cB m')/\Fr m1 m' [c]/\m'.get c=some (.obj true [.int .i64 v,x',.int .i64 leaf])/\GR 3 m' x' ((kids.map fun k=>((p.idxOf k.toNat:Nat):Int)).map (AV.int .i64)) T'/\∀ y∈T',m1.length<=y:=by
 subst hx6;intro j
 induction j with
 | zero=>
  intro i m x T hi f hg hr hT;rw[kW (by omega)] at hr;refine ⟨m,x,T,?_,f,hg,hr,hT⟩;rw[Rz,bc,aa,aA,aj (by omega)]
 | succ j ih=>
  intro i m x T hi f hg hr hT;have cm:i < kids.length:=by omega
  obtain ⟨t,et,ht⟩:=hk _ (bI cm);have hcl:=bC hg;have Ep:m.get pm=some (.mp (.int .i64) (pe 0 p)):=(f.get _ Bv (by simpa using hne)).trans hp;have lk:=qnR Ep (hpb t ht) ht (.int .i64 0);obtain ⟨x2,m2,T2,ea,g2,f2,gg2⟩:=Be (b:=8) hr (by simp;omega) (by omega) (.int .i64 (p.idxOf t:Nat));have hcT:c∉T:=fun h=>by have:=hT c h;omega
  have g2c:m2.get c=some (.obj true [.int .i64 v,x,.int .i64 leaf]):=(f2.get _ hcl hcT).trans hg;obtain ⟨xz,xo,rfl,_⟩:=D2 g2
  have st:aM none m2 (.ptr c (0+1)) (.lst none xz xo (((kids.take i).map fun k=>((p.idxOf k.toNat:Nat):Int)).map (AV.int .i64)++[.int .i64 (p.idxOf t:Nat)]))=some (m2.set c (some (.obj true [.int .i64 v,.lst none xz xo (((kids.take i).map fun k=>((p.idxOf k.toNat:Nat):Int)).map (AV.int .i64)++[.int .i64 (p.idxOf t:Nat)]),.int .i64 leaf]))):=by
   rw[qt,g2c,kh,aa];rfl
  have qme:=bC g2c
  have ek:(((kids.take i).map fun k=>((p.idxOf k.toNat:Nat):Int)).map (AV.int .i64)++[.int .i64 (p.idxOf t:Nat)])=((kids.take (i+1)).map fun k=>((p.idxOf k.toNat:Nat):Int)).map (AV.int .i64):=by
   rw[oC cm,lA,lA,et];rfl
  obtain ⟨m',x',T',e,k⟩:=ih (i+1) (m2.set c (some (.obj true [.int .i64 v,.lst none xz xo (((kids.take i).map fun k=>((p.idxOf k.toNat:Nat):Int)).map (AV.int .i64)++[.int .i64 (p.idxOf t:Nat)]),.int .i64 leaf]))) _ T2 (by omega) ((Fr.trans f f2 fun y hy=>.inr (hT y hy)).set _ (.inl (by simp))) (cL rfl qme) (by
   rw[<- ek]
   exact D1 g2 fun y hy=>cw (by
    rcases gg2 y hy with hh | hh
    ·have:=hT y hh;omega
    ·have:=f.len;omega)) (fun y hy=>by
   rcases gg2 y hy with hh | hh
   ·exact hT y hh
   ·have:=f.len;omega)
  refine ⟨m',x',T',?_,k⟩;have ldx:ai none m (.ptr c (0+1))=some x:=by rw[bV,hg];rfl
  rw[Rz,bc,aa,aA,an (by omega),jY cm,aa,gy,aa,cJ,aa,ldx,aa,et,lk,aa,ry,aa,ea,aa,aa,st,aa,cr (by omega),aa];exact e
theorem EY (g:GoodL ar l) (dd:l.length<=100000) {p:List Nat} (hp:p.length<=100000) {id:Nat} (hid:id < l.length):(nd l p id).ok:=by
 unfold nd;rw[jr hid]
 rcases g.ok _ (bI hid) with ⟨a1,a2,a3⟩ | ⟨a1,a2,a3,a4,a5⟩
 ·refine .inl ⟨a1,?_,a3⟩;simp only[a2];rfl
 ·refine .inr ⟨a1,a2,a3,fun k hk=>?_,by simpa using a5⟩;obtain ⟨q,_,rfl⟩:=iY.1 hk;have:=List.idxOf_le_length (a:=q.toNat) (l:=p);omega
theorem qk0 {p q:List Nat} (h:Cl l (p++q)):Cl l p:=by
 refine ⟨(List.nodup_append.1 h.nd).1,fun j hj=>h.lt j (AJ _ hj),fun i hi hj k hk=>?_⟩;have hi2:i < (p++q).length:=by simp;omega
 have e:(p++q)[i]=p[i]:=List.getElem_append_left hi;have pa:(p++q)[i] < l.length:=by rw[e];exact hj
 have:=h.cl i hi2 pa k (by
  have:∀ (y:Nat) (hy:y < l.length),y=p[i]->k∈l[y].kids:=fun y hy ey=>by subst ey;exact hk
  exact this _ pa e)
 rwa [List.take_append_of_le_length (by omega)] at this
theorem W25 (h0:c9 m0 s F arms most l) (g:GoodL ar l) (dd:l.length<=100000) (sM:Xd l) {pm t:Nat} (Bv:m0.length=pm) (hpt:pm < t) {ids:List Nat} (hc:Cl l ids):∀ (q p:List Nat) (m:af) (y:AV) (T:List Nat),ids=p++q->Fr m0 m []->m.get pm=some (.mp (.int .i64) (pe 0 p))->NR 74 m y (dD l p) T->(∀ k∈T,t < k)->m.get t=some (.obj false (ds ids)) ->
  ∃ (m':af) (y':AV) (T':List Nat),G3 (.ptr s 0) (.mref pm) y (.arr t 0 ids.length none) (.int .i64 ids.length) (.int .i64 p.length) m (CE (aE ae.P f43.results.toList))=some (.tup [y',.int .i64 0],m')/\NR 74 m' y' (dD l ids) T'/\Fr m0 m' []:=by
 have cm:ids.length<=l.length:=s6 _ _ hc.nd hc.lt;intro q
 induction q with
 | nil=>
  intro p m y T fG f Ep hn hT ht;rw[bY] at fG;subst fG;refine ⟨m,y,T,?_,hn,f⟩;rw[RA,bc,aa,aA,aj (by omega),qeg]
 | cons id q ihq=>
  intro p m y T fG f Ep hn hT ht;have Ix:Cl l p:=by rw[fG] at hc;exact qk0 hc
  have hid:id < l.length:=hc.lt id (by rw[fG];simp);have qmW:p.length < ids.length:=by rw[fG];simp
  have N7:id∉p:=fun h=>by
   rw[fG] at hc;exact (List.nodup_append.1 hc.nd).2.2 id h id fQ rfl
  have tZ:∀ k∈l[id].kids,k.toNat∈p:=fun k hk=>by
   rw[fG] at hc;have e:(p++id::q)[p.length]'(by simp)=id:=by simp
   have:=hc.cl p.length (by simp) (by rw[e];exact hid) k (by
    have:∀ (y:Nat) (hy:y < l.length),y=id->k∈l[y].kids:=fun y hy ey=>by subst ey;exact hk
    exact this _ _ e)
   simpa using this
  have gK:aF none (.arr t 0 ids.length none) (.int .i64 p.length)=some (.ptr t p.length):=ga qmW
  have wW:ai none m (.ptr t p.length)=some (.int .i64 id):=by
   rw[bV,ht,kh,aa,uZ];exact Ii (by rw[fG];simp)
  have gE:=bC ht;have qqU:=bC Ep;have up:=qqx Ep (n:=id) (by omega) N7 (by omega);have st:=h0.app f;obtain ⟨pp,na,TT,st,hFF⟩:=st;have hs:=st.hs;have hsm:s < m0.length:=h0.lt s (by rw[hFF];simp);have y6:=EX st.hn hid;have Bp:=uj (st.ok _ (bI hid))
  have fI:l[id].kids.length<=1000:=by
   rcases st.ok _ (bI hid) with ⟨_,h2,_⟩ | ⟨_,_,_,_,h5⟩
   ·rw[h2];simp
   ·omega
  have hb:fU (.agg [(.int .i64 0),aq,(.int .i64 0)]) [(0,none,.int .i64 l[id].var),(2,none,.int .i64 l[id].leaf)]=some (.agg [.int .i64 l[id].var,aq,.int .i64 l[id].leaf]):=rfl;generalize hM:List.set (List.set ((m.set pm (some (.mp (.int .i64) (pe 0 (p++[id])))))++[some Ent.resv]) m.length (some (Ent.obj true [.int .i64 0,aq,.int .i64 0]))) m.length (some (Ent.obj true [.int .i64 l[id].var,aq,.int .i64 l[id].leaf]))=M
  have fM:Fr m0 M []:=by
   rw[<- hM];exact (((f.set _ (.inr (by omega))).snoc _).set _ (.inr (by omega))).set _ (.inr (by omega))
  have lM:M.length=m.length+1:=by rw[<- hM];simp
  have fM2:Fr m M [pm]:=by
   rw[<- hM];exact ((((Fr.refl m [pm]).set _ (.inl (by simp))).snoc _).set _ (.inr (by omega))).set _ (.inr (by omega))
  have gc:af.get M m.length=some (Ent.obj true [.int .i64 l[id].var,aq,.int .i64 l[id].leaf]):=by rw[<- hM];exact (by simp (disch:=(first | assumption | omega | (simp only[aI,a8,aL,aQ];first | done | omega))) only[gR,bU,bG,cw,cL];first | done | rfl)
  have gp:af.get M pm=some (.mp (.int .i64) (pe 0 (p++[id]))):=by rw[<- hM];exact (by simp (disch:=(first | assumption | omega | (simp only[aI,a8,aL,aQ];first | done | omega))) only[gR,bU,bG,cw,cL];first | done | rfl)
  have qmt:∀ k∈l[id].kids,∃ t:Nat,k=t/\t∈p++[id]:=fun k hk=>by
   obtain ⟨t,rfl,_⟩:=pP g hid k hk;exact ⟨t,rfl,AJ _ (by simpa using tZ _ hk)⟩
  obtain ⟨m2,xk,Tk,e13,f2,gc2,gk,ve⟩:=qhY (x0:=.ptr s 0) (pm:=pm) (c:=m.length) (p:=p++[id]) (v:=l[id].var) (leaf:=l[id].leaf) (kids:=l[id].kids) (z:=kz l[id]) (o:=ko l[id]) (m1:=M) (by simp;omega) (fun y hy=>by
   have:y < l.length:=by
    rcases iy.1 hy with h | h
    ·exact Ix.lt y h
    ·obtain rfl:y=id:=by simpa using h
     exact hid
   omega) (by omega) (by omega) (by omega) qmt fI gp (.mref pm) y (.arr t 0 ids.length none) (.int .i64 ids.length) (.int .i64 p.length) rfl (CE (aE ae.P f43.results.toList)) l[id].kids.length 0 M _ [] (by omega) (Fr.refl _ _) gc .none (by simp)
  have qmE:(nd l p id).kids=l[id].kids.map fun k=>(((p++[id]).idxOf k.toNat:Nat):Int):=by
   rw[<- O6 hid tZ [id]];unfold nd;rw[jr hid]
  have El:(nd l p id).var=l[id].var/\(nd l p id).leaf=l[id].leaf:=by
   unfold nd;rw[jr hid];exact ⟨rfl,rfl⟩
  have bf:=EY g dd (p:=p) (by omega) hid
  obtain ⟨kz',ko',rfl,Oo⟩:=ZQ gk qmE bf (fun hv=>by
   rw[El.1] at hv;have:=sM _ (bI hid) hv
   simpa using this)
  have nr:=H0 l[id].var l[id].leaf kz' ko' ((nd l p id).kids.map (AV.int .i64));rw[Oo,<- El.1,<- El.2] at nr;have nr:dH (some 3) [.agg [.int .i64 (nd l p id).var,.lst none kz' ko' ((nd l p id).kids.map (AV.int .i64)),.int .i64 (nd l p id).leaf]]=some (.lst (some 3) false .full [(nd l p id).av]):=nr
  have fm2:Fr m m2 [pm]:=Fr.trans fM2 f2 fun x hx=>by
   obtain rfl:x=m.length:=by simpa using hx
   exact .inr (aR _)
  have n2:NR 74 m2 y (dD l p) T:=ur hn fun k hk=>fm2.get k (uo hn k hk) (by have:=hT k hk;simp;omega);obtain ⟨y3,m3,T3,ea,n3,f3,gg3⟩:=Pc n2 (by unfold dD;rw[cg];omega) (nd l p id);rw[<- XS Ix hid tZ] at n3
  have f03:Fr m0 m3 []:=Fr.trans (Fr.trans fM f2 fun x hx=>by
   obtain rfl:x=m.length:=by simpa using hx
   have:=f.len
   exact .inr this) f3 fun x hx=>.inr (by have:=hT x hx;omega)
  have lm2:=f2.len
  have gp3:m3.get pm=some (.mp (.int .i64) (pe 0 (p++[id]))):=by
   rw[f3.get pm (by omega) (fun h=>by have:=hT pm h;omega),f2.get pm (by omega) (by simp;omega)];exact gp
  obtain ⟨m',y',T',e,k⟩:=ihq (p++[id]) m3 y3 T3 (by rw[fG,gd];rfl) f03 gp3 n3 (fun x hx=>by
   rcases gg3 x hx with hh | hh
   ·exact hT x hh
   ·omega) (by
   rw[f3.get t (by omega) (fun h=>by have:=hT t h;omega),f2.get t (by omega) (by simp;omega),<- hM]
   exact (by simp (disch:=(first | assumption | omega | (simp only[aI,a8,aL,aQ];first | done | omega))) only[gR,bU,bG,cw,cL,ht];first | done | rfl))
  refine ⟨m',y',T',?_,k⟩
  have ld3:ai (some 3) m2 (.ptr m.length 0)=some (.agg [.int .i64 (nd l p id).var,.lst none kz' ko' ((nd l p id).kids.map (AV.int .i64)),.int .i64 (nd l p id).leaf]):=by
   rw[bV,gc2,El.1,El.2];rfl
  have e13:CX (.ptr s 0) (.mref pm) y (.ptr m.length 0) (.arr t 0 ids.length none) (.int .i64 ids.length) (.int .i64 p.length) (IA (kz l[id]) (ko l[id]) l[id].kids) (.int .i64 l[id].kids.length) (.int .i64 0) M (CD (CE (aE ae.P f43.results.toList)))=_:=e13;rw[RA,bc,aa,aA,an (by omega)]
  repeat ((with_reducible (first | apply bs | apply dn));(focus (first | (simp (disch:=(first | assumption | omega | (simp only[aI,a8,aL,aQ];first | done | omega))) only[dj,beq_self_eq_true,cK,aa,Sh.size,bz,bJ,Nat.reduceAdd,Nat.reduceLeDiff,aR,gK,wW,up,hs,y6,MW,U0,f2v,Xh,hb,EZ,Bp,iI];first | done | rfl) | rfl));try dsimp only)
  have en:(az (some (List.set m pm (some (Ent.mp (.int .i64) (pe 0 (p++[id]))))).length) (cQ (List.set m pm (some (Ent.mp (.int .i64) (pe 0 (p++[id]))))) 1) .resv).1=m.length:=by rw[EZ];simp
  rw[en,hM,e13,qed,ld3,aa,nr,aa,ea,aa,cr (by omega),aa];rw[aI] at e;exact e
theorem Vk (g:GoodL ar l):Xd l:=fun n hn hv=>by
 obtain ⟨i,hi,rfl⟩:=qB hn;obtain ⟨k,hk,_⟩:=g.dif i hi (by omega);exact List.ne_nil_of_mem hk
theorem A25 (h0:c9 m0 s F arms most l) (g:GoodL ar l) (dd:l.length<=100000) (hm:most≠0) {id:Nat} (hid:id < l.length):∃ (m':af) (y:AV) (T:List Nat),AC ae 43 [.ptr s 0,.int .i64 id] m0=some (.tup [y,.int .i64 0],m')/\NR 74 m' y (dD l (Vi l id [])) T/\Fr m0 m' []:=by
 have e50:=xS h0 hm;have e56:=FJ h0 id;rw[eE (by omega)] at e56;have f1:=Fr.app m0 (some (Ent.mp (.int .i64) [])) [];obtain ⟨m1,x,T,e61,gx,f2,hT1⟩:=J9 (h0.app f1) g dd hid;have f3:Fr m0 m1 []:=Fr.trans f1 f2 fun _ h=>by cases h
 obtain ⟨c1,_,_⟩:=rr g id hid [] sv
 have gp:m1.get m0.length=some (.mp (.int .i64) (pe 0 [])):=by
  rw[f2.get _ (by simp) (by simp)];exact (by simp (disch:=(first | assumption | omega | (simp only[aI,a8,aL,aQ];first | done | omega))) only[gR,bU,bG,cw,cL];first | done | rfl)
 have e65:AC ae 65 [.ptr s 0,.int .i64 id] (az none m0 (.mp (.int .i64) [])).2=_:=e61;rw[T43,e50,aa,gO,e56,aa,n9,aa,jU,gO,e65,aa];generalize hV:Vi l id []=ids at gx c1 ⊢
 cases gx with
 | none=>
  have:id∈Vi l id []:=by rw[tI g hid,aj (by simp)];simp
  rw[hV] at this;cases this
 | some t ids ht hne=>
  have gE:=hT1 t (by simp);obtain ⟨m',y,T',e,k⟩:=W25 h0 g dd (Vk g) (pm:=m0.length) (t:=t) rfl (by simp at gE;omega) c1 ids [] m1 aq [] rfl f3 gp .none (by simp) ht;refine ⟨m',y,T',?_,k⟩;rw[show aK false (.arr t 0 ids.length none)=some (.int .i64 ids.length) from rfl,aa];exact e
end
end Go.Ab
namespace Go.Ab
theorem PQ (ns:List Int):(n6 ns).length=ns.length:=List.length_mergeSort _
theorem qpJ (ns:List Int) (x:Int):x∈n6 ns↔x∈ns:=by
 unfold n6;exact List.mem_mergeSort
theorem ME (zs:List Int):(Lib.compact zs).length<=zs.length:=by
 unfold Lib.compact Lib.compactUpTo;rw[cg];have:=List.length_filter_le (Lib.keeps zs.toArray) (List.range zs.length)
 rwa [List.length_range] at this
theorem DZ {zs:List Int} {j:Nat} (h:j < zs.length):zs.toArray[j]! = zs[j]:=by simp[h]
theorem WZ (zs:List Int) (j:Nat):Lib.keeps zs.toArray j=true↔j=0\/zs.toArray[j]!≠zs.toArray[j - 1]!:=by
 unfold Lib.keeps;simp
theorem qk6 {zs:List Int} (x:Int):x∈Lib.compact zs↔x∈zs:=by
 unfold Lib.compact Lib.compactUpTo;rw[iY]
 constructor
 ·rintro ⟨j,hj,rfl⟩
  have ke:j < zs.length:=by
   have:=(se.1 hj).1;simpa using this
  rw[DZ ke];exact bI ke
 ·intro hx;obtain ⟨i,hi,e⟩:=qB hx
  have key:∀ i,(hi:i < zs.length)->∃ j,j < zs.length/\Lib.keeps zs.toArray j=true/\zs.toArray[j]! = zs[i]:=by
   intro i
   induction i with
   | zero=>intro hi;exact ⟨0,hi,(WZ zs 0).2 (.inl rfl),DZ hi⟩
   | succ i ih=>
    intro hi
    by_cases hk:Lib.keeps zs.toArray (i+1)=true
    ·exact ⟨i+1,hi,hk,DZ hi⟩
    ·have fR:i < zs.length:=by omega
     obtain ⟨j,h1,h2,h3⟩:=ih fR;refine ⟨j,h1,h2,h3.trans ?_⟩;rw[WZ] at hk;have h4:zs.toArray[i+1]! = zs.toArray[i]!:=qw fun hne=>hk (.inr (by rw[pF];exact hne));rw[DZ hi,DZ fR] at h4;exact h4.symm
  obtain ⟨j,h1,h2,h3⟩:=key i hi;exact ⟨j,se.2 ⟨by simpa using h1,h2⟩,h3.trans e⟩
def qZ (ns:List Int):List Int:=Lib.compact (n6 ns)
theorem qqh:qZ []=[]:=by
 refine ou ?_;have h1:=ME (n6 []);have h2:=PQ [];unfold qZ;simp only[aQ] at h2;omega
theorem Z5 (ns:List Int) (x:Int):x∈qZ ns↔x∈ns:=by unfold qZ;rw[qk6,qpJ]
end Go.Ab
namespace Go.Ab
open Go.Proofs Go.Proofs.Tryz
def wo (B:Nat) (m:af) (x:AV) (ns:List Int):Prop:=(x=aq/\ns=[])\/∃ t,x=.arr t 0 ns.length none/\0 < ns.length/\m.get t=some (.obj false (ns.map (AV.int .i64)))/\B<=t
theorem wo.move {B:Nat} {m m':af} {x:AV} {ns:List Int} (h:wo B m x ns) (hm:∀ t,x=.arr t 0 ns.length none->t < m.length->m'.get t=m.get t):wo B m' x ns:=by
 rcases h with h | ⟨t,hx,h1,h2,h3⟩
 ·exact .inl h
 ·exact .inr ⟨t,hx,h1,by rw[hm t hx (bC h2)];exact h2,h3⟩
theorem qoy {B:Nat} {m:af} {x:AV} {ns:List Int} (h:wo B m x ns) (hl:ns.length<=100000) (hB:B<=m.length) (v:Int):∃ x' m',ck none true 3 none 8 m x (.lst none false .full [.int .i64 v])=some (x',m')/\wo B m' x' (ns++[v])/\m.length<=m'.length/\∀ y,y < m.length->(∀ t,x=.arr t 0 ns.length none->y≠t)->m'.get y=m.get y:=by
 rcases h with ⟨rfl,rfl⟩ | ⟨t,rfl,jb,hg,htB⟩
 ·have ha:ck none true 3 none 8 m aq (.lst none false .full [.int .i64 v])=some (.arr m.length 0 1 none,m++[some (.obj false [.int .i64 v])]):=by
   simp only[ck,aQ,aL,br,bz,or_true,bQ,az]
   rfl
  exact ⟨_,_,ha,.inr ⟨m.length,by simp,by simp,by rw[bG rfl];rfl,hB⟩,by simp,fun y hy _=>bU hy⟩
 ·have gE:=bC hg;have ho:m.obj? t=some (false,ns.map (AV.int .i64)):=by rw[qm,hg];rfl
  have hY:zO m none (.lst none false .full [.int .i64 v])=some (1,[.int .i64 v]):=rfl
  have hX:xC m none (.arr t 0 ns.length none)=some (ns.length,ns.map (AV.int .i64),m.set t none):=by
   simp only[xC,ho,aa];rw[an ⟨trivial,trivial,jb,trivial,by simp[Sh.size]⟩]
  have ha:ck none true 3 none 8 m (.arr t 0 ns.length none) (.lst none false .full [.int .i64 v])=some (.arr (m.set t none).length 0 (ns.length+1) none,(m.set t none)++[some (.obj false (ns.map (AV.int .i64)++[.int .i64 v]))]):=by
   simp only[ck,uU,hY,hX,aa];rw[an (show (ns.length+1) * 8<=gS by unfold gS;omega)]
  have jC:(m.set t (none:Option Ent)).length=m.length:=a8;refine ⟨_,_,ha,.inr ⟨(m.set t none).length,by simp,by simp,by rw[bG rfl,lA];rfl,by rw[jC];exact hB⟩,by simp,fun y hy hne=>?_⟩;rw[bU (by rw[jC];exact hy),cw (hne t rfl)]
def HD (B:Nat) (m:af) (y:AV) (rs:List Int):Prop:=(y=aq/\rs=[])\/∃ t zs,y=.arr t 0 rs.length none/\m.get t=some (.obj false ((rs++zs).map (AV.int .i64)))/\B<=t
section
variable {s:Nat} {F:List Nat} {arms:AV} {most:Int} {l:List ND}
theorem B23 (n:ND) (m:af):AC ae 106 [n.av] m=some (.tup [.int .i64 n.leaf,.bool (decide (n.var < 0))],m++[some (Ent.obj true [.int .i64 n.var,cE n,.int .i64 n.leaf])]):=by
 have e:cU (some 3) n.av=true:=by unfold ND.av cE;split<;>rfl
 have hb:cS none (some 3) m n.av=some (.ptr m.length 0,m++[some (Ent.obj true [.int .i64 n.var,cE n,.int .i64 n.leaf])]):=by
  unfold cS;rw[an e];rfl
 have l0:ai none (m++[some (Ent.obj true [.int .i64 n.var,cE n,.int .i64 n.leaf])]) (.ptr m.length (0+0))=some (.int .i64 n.var):=by
  rw[bV,bG rfl];rfl
 have l2:ai none (m++[some (Ent.obj true [.int .i64 n.var,cE n,.int .i64 n.leaf])]) (.ptr m.length (0+2))=some (.int .i64 n.leaf):=by
  rw[bV,bG rfl];rfl
 rw[qgi,hb,aa,cJ,aa,l2,aa,cJ,aa,l0,aa,bc,aa]
theorem qlU {ar:List Int} {m:af} {x:AV} {T:List Nat} (g:GoodL ar l) {id:Nat} (hid:id < l.length) (h:GA m x (Vi l id []) T):∃ t,x=.arr t 0 (Vi l id []).length none/\m.get t=some (.obj false (ds (Vi l id []))):=by
 generalize hV:Vi l id []=ids at h
 cases h with
 | none=>
  have:id∈Vi l id []:=by rw[tI g hid,aj (by simp)];simp
  rw[hV] at this;cases this
 | some t ids ht hne=>exact ⟨t,rfl,ht⟩
def nb (val:ND->Int) (keep:ND->Bool) (l:List ND) (ids:List Nat):List Int:=(ids.filter fun i=>keep (l.getD i ⟨0,[],0⟩)).map fun i=>val (l.getD i ⟨0,[],0⟩)
theorem Z1 (val:ND->Int) (keep:ND->Bool) (l:List ND) (p:List Nat) (i:Nat):nb val keep l (p++[i])=nb val keep l p++(if keep (l.getD i ⟨0,[],0⟩)=true then [val (l.getD i ⟨0,[],0⟩)] else []):=by
 unfold nb;rw[List.filter_append,lA,List.filter_cons,List.filter_nil];congr 1;split<;>rfl
theorem X21 {cf:Nat} {val:ND->Int} {keep:ND->Bool} (c1:((ae.lib cf).isNone && (ae.libm cf).isNone)=true) (c2:ae.inl 104 cf=true) (c3:ae.thaw 104 cf=false) (c4:ae.frzc 104 cf=false) (sI:∀ (n:ND) m,AC ae cf [n.av] m=some (.tup [.int .i64 (val n),.bool (keep n)],m++[some (Ent.obj true [.int .i64 n.var,cE n,.int .i64 n.leaf])]))
  {m0:af} (h0:c9 m0 s F arms most l) {ids:List Nat} (vk:∀ i∈ids,i < l.length) (cm:ids.length<=100000) {t:Nat} (ht:m0.get t=some (.obj false (ds ids))):∀ (q p:List Nat) (m:af) (x:AV),ids=p++q->Fr m0 m []->wo m0.length m x (nb val keep l p) ->
  ∃ m' x',we (.ptr s 0) (.fn cf []) x (.arr t 0 ids.length none) (.int .i64 ids.length) (.int .i64 p.length) m (vW (aE ae.P f104.results.toList))=vW (aE ae.P f104.results.toList) (.exit 0) (Hi x' m')/\Fr m0 m' []/\wo m0.length m' x' (nb val keep l ids):=by
 intro q
 induction q with
 | nil=>
  intro p m x fG f hx;rw[bY] at fG;subst fG;refine ⟨m,x,?_,f,hx⟩;rw[QK,cW,aa,aA,aj (by omega)]
 | cons i q ih=>
  intro p m x fG f hx;have hpl:p.length < ids.length:=by rw[fG];simp
  have iF:ids[p.length]=i:=by simp[fG]
  have hi:i < l.length:=vk i (by rw[fG];simp);have gK:aF none (.arr t 0 ids.length none) (.int .i64 p.length)=some (.ptr t p.length):=ga hpl
  have wW:ai none m (.ptr t p.length)=some (.int .i64 (i:Nat)):=by
   rw[bV,f.get t (bC ht) (by simp),ht,kh,aa,uZ];exact Ii (by rw[fG];simp)
  have gM:=h0.app f;obtain ⟨p0,na,TT,st,_⟩:=gM;have BF:ai none m (.ptr s (0+1))=some na:=by rw[bV,st.hs];rfl
  have y6:=EX st.hn hi;have ldv:ai (some 3) m (.vptr [.int .i64 l[i].var,cE l[i],.int .i64 l[i].leaf])=some l[i].av:=rfl;have hc:=sI l[i] m;have jz:l.getD i ⟨0,[],0⟩=l[i]:=jr hi;have f1:Fr m0 (m++[some (Ent.obj true [.int .i64 l[i].var,cE l[i],.int .i64 l[i].leaf])]) []:=f.snoc _;have hx1:wo m0.length (m++[some (Ent.obj true [.int .i64 l[i].var,cE l[i],.int .i64 l[i].leaf])]) x (nb val keep l p):=hx.move fun t _ ht=>bU ht;have Wr:(p++[i]).length=p.length+1:=by simp
  have gE:(nb val keep l p).length<=100000:=by
   unfold nb;rw[cg];have:=List.length_filter_le (fun i=>keep (l.getD i ⟨0,[],0⟩)) p;omega
  have WD:we (.ptr s 0) (.fn cf []) x (.arr t 0 ids.length none) (.int .i64 ids.length) (.int .i64 p.length) m (vW (aE ae.P f104.results.toList))=aw (.bool (keep l[i])) ((ck none true 3 none 8 (m++[some (Ent.obj true [.int .i64 l[i].var,cE l[i],.int .i64 l[i].leaf])]) x (.lst none false .full [.int .i64 (val l[i])])).bind fun mD=>we (.ptr s 0) (.fn cf []) mD.1 (.arr t 0 ids.length none) (.int .i64 ids.length) (.int .i64 (p.length+1:Nat)) mD.2 (vW (aE ae.P f104.results.toList))) (we (.ptr s 0) (.fn cf []) x (.arr t 0 ids.length none) (.int .i64 ids.length) (.int .i64 (p.length+1:Nat)) (m++[some (Ent.obj true [.int .i64 l[i].var,cE l[i],.int .i64 l[i].leaf])]) (vW (aE ae.P f104.results.toList))):=by
   rw[QK,cW,aa,aA,an hpl,gK,aa,wW,aa,nU,aa,cJ,aa,BF,aa,y6,aa,ldv,aa,show lH (.fn cf [])=some (cf,[]) from rfl,aa,tK c1 c2 c3 c4,bY,hc,aa,kL,aa,kM,aa,cr (by omega),ry,aa]
   rfl
  cases hk:keep l[i] with
  | true=>
   obtain ⟨x2,m2,ea,hx2,hlen,pN⟩:=qoy hx1 gE (by have:=f1.len;omega) (val l[i])
   have f2:Fr m0 m2 []:=⟨by have:=f1.len;omega,fun y hy _=>by
    have hl:=f1.len
    rw[pN y (by omega) (fun t ht e=>by
     rcases hx1 with ⟨h1,_⟩ | ⟨t',h1,_,_,h4⟩
     ·rw[h1] at ht;cases ht
     ·rw[h1] at ht;cases ht;omega)]
    exact f1.get y hy (by simp)⟩
   have NH:nb val keep l (p++[i])=nb val keep l p++[val l[i]]:=by
    rw[Z1,jz,hk,an rfl]
   obtain ⟨m',x',e,k1,k2⟩:=ih (p++[i]) m2 x2 (by rw[fG,gd];rfl) f2 (by rw[NH];exact hx2);refine ⟨m',x',?_,k1,k2⟩;rw[Wr] at e;rw[WD,hk,iV,ea,aa];exact e
  | false=>
   have NH:nb val keep l (p++[i])=nb val keep l p:=by
    rw[Z1,jz,hk,aj (by simp),bY]
   obtain ⟨m',x',e,k1,k2⟩:=ih (p++[i]) _ x (by rw[fG,gd];rfl) f1 (by rw[NH];exact hx1);refine ⟨m',x',?_,k1,k2⟩;rw[Wr] at e;rw[WD,hk,gO];exact e
theorem B21 {cf:Nat} {val:ND->Int} {keep:ND->Bool} (c1:((ae.lib cf).isNone && (ae.libm cf).isNone)=true) (c2:ae.inl 104 cf=true) (c3:ae.thaw 104 cf=false) (c4:ae.frzc 104 cf=false) (sI:∀ (n:ND) m,AC ae cf [n.av] m=some (.tup [.int .i64 (val n),.bool (keep n)],m++[some (Ent.obj true [.int .i64 n.var,cE n,.int .i64 n.leaf])]))
  {m0:af} {ar:List Int} (h0:c9 m0 s F arms most l) (hm:most≠0) (g:GoodL ar l) (dd:l.length<=100000) {id:Nat} (hid:id < l.length) :
  ∃ m' y,AC ae 104 [.ptr s 0,.int .i64 id,.fn cf []] m0=some (.tup [y,.int .i64 0],m')/\Fr m0 m' []/\HD m0.length m' y (qZ (nb val keep l (Vi l id []))):=by
 have e50:=xS h0 hm;have e56:=FJ h0 id;rw[eE (by omega)] at e56;obtain ⟨m1,x,T,e61,Eh,f1,_⟩:=J9 h0 g dd hid;obtain ⟨cc1,cc2,_⟩:=rr g id hid [] sv;obtain ⟨t0,rfl,Ot⟩:=qlU g hid Eh;have fZ:=s6 _ _ cc1.nd cc1.lt;have st1:=h0.app f1;obtain ⟨m2,x2,e,f2,hx2⟩:=X21 c1 c2 c3 c4 sI st1 (ids:=Vi l id []) cc1.lt (by omega) Ot (Vi l id []) [] m1 aq rfl (Fr.refl _ _) (.inl ⟨rfl,rfl⟩);have qmz:aK false (.arr t0 0 (Vi l id []).length none)=some (.int .i64 (Vi l id []).length):=rfl;have f12:Fr m0 m2 []:=Fr.trans f1 f2 fun _ hh=>by cases hh
 have lP:=f1.len;have gC:=f2.len
 have e0:AC ae 104 [.ptr s 0,.int .i64 id,.fn cf []] m0=vW (aE ae.P f104.results.toList) (.exit 0) (Hi x2 m2):=by
  have e61:AC ae 65 [.ptr s 0,.int .i64 id] m0=some (.arr t0 0 (Vi l id []).length none,m1):=e61;rw[L4,e50,aa,gO,e56,aa,n9,aa,jU,gO,e61,aa,qmz,aa];exact e
 rw[e0,qaL];generalize hns:nb val keep l (Vi l id [])=ns at *
 have oL:ns.length<=100000:=by
  rw[<- hns];unfold nb;rw[cg];have:=List.length_filter_le (fun i=>keep (l.getD i ⟨0,[],0⟩)) (Vi l id []);omega
 rcases hx2 with ⟨rfl,rfl⟩ | ⟨t,rfl,jb,hg,htB⟩
 ·exact ⟨m2,_,rfl,f12,.inl ⟨rfl,qqh⟩⟩
 ·have gE:=bC hg;have ho:m2.obj? t=some (false,ns.map (AV.int .i64)):=by rw[qm,hg];rfl
  have es:zQ [.arr t 0 ns.length none] m2=some (.tup [],m2.set t (some (.obj false ((n6 ns).map (AV.int .i64))))):=by
   simp only[zQ,ho,aa];rw[an ⟨trivial,trivial,jb,by simp,by omega⟩,OG];rfl
  have pN:af.get (m2.set t (some (.obj false ((n6 ns).map (AV.int .i64))))) t=some (.obj false ((n6 ns).map (AV.int .i64))):=cL rfl gE;have ho2:af.obj? (m2.set t (some (.obj false ((n6 ns).map (AV.int .i64))))) t=some (false,(n6 ns).map (AV.int .i64)):=by rw[qm,pN];rfl
  have mQ:=PQ ns
  have ec:yx [.arr t 0 ns.length none] (m2.set t (some (.obj false ((n6 ns).map (AV.int .i64)))))=some (.arr t 0 (qZ ns).length none,m2.set t (some (.obj false ((qZ ns++List.replicate ((n6 ns).length - (qZ ns).length) 0).map (AV.int .i64))))):=by
   simp only[yx,ho2,aa];rw[an ⟨trivial,trivial,jb,by rw[cg,mQ],by omega⟩,OG,aS,AK];rfl
  refine ⟨_,_,by rw[es,aa,ec,aa],⟨by rw[a8];exact f12.len,fun y hy _=>?_⟩,.inr ⟨t,List.replicate ((n6 ns).length - (qZ ns).length) 0,rfl,cL rfl gE,by omega⟩⟩;rw[cw (by omega)];exact f12.get y hy (by simp)
theorem Qq {m0:af} {ar:List Int} (h0:c9 m0 s F arms most l) (hm:most≠0) (g:GoodL ar l) (dd:l.length<=100000) {id:Nat} (hid:id < l.length) :
  ∃ m' y,AC ae 41 [.ptr s 0,.int .i64 id] m0=some (.tup [y,.int .i64 0],m')/\Fr m0 m' []/\HD m0.length m' y (qZ (nb (fun n=>n.leaf) (fun n=>decide (n.var < 0)) l (Vi l id []))):=by
 obtain ⟨m',y,e,h1,h2⟩:=B21 (cf:=106) rfl rfl rfl rfl B23 h0 hm g dd hid;exact ⟨m',y,by rw[L8,e,aa,kL,aa,kM,aa],h1,h2⟩
end
end Go.Ab
namespace Go.Ab
noncomputable section
open Go.Proofs.Tryz
def Lc (x5:AV) (m:af):St:=⟨(aO (aG (x5::bp (aG [])))),m⟩
def GC (x1 x5 jv b7 b9:AV) (m:af) (K:KT):OM:=bX 127 (b6 (c2 (c2 (c2 (aB f127))))) 4 (aG (x1::aJ (aG (x5::aX (aO (aJ (aG (jv::b7::b9::bA (aX (aO (aJ (aG [])))))))))))) m K
def Ld (x1 x5 x6 x8 jv b7 b9:AV) (m:af):St:=⟨(aG (x1::aJ (aG (x5::x6::aG (x8::aX (aO (jv::b7::b9::bA (aX (aO (aJ (aG []))))))))))),m⟩
def GD (x1 x5 x6 x7 x8 jv b7 b9 FD tp pA:AV) (m:af) (K:KT):OM:=bX 127 (b6 (l9 (l9 (p7 (c2 (aB f127)))))) 8 (aG (x1::aJ (aG (x5::x6::x7::x8::aX (aO (jv::b7::b9::aO (FD::tp::pA::bA (aX [])))))))) m K
abbrev qbM (K:KT):KT:=bF 127 (bm (aB f127)) K
abbrev qbN (K:KT):KT:=bu 0 (qbM K)
abbrev Km (K:KT):KT:=(qbN K)
abbrev qbP (K:KT):KT:=bF 127 (lE (np (c2 (c2 (aB f127))))) (nY 127 (b6 (c2 (c2 (c2 (aB f127))))) 4 K)
abbrev qbQ (K:KT):KT:=bu 1 (qbP K)
abbrev qbR (K:KT):KT:=bF 127 (lE (A4 (np (c2 (c2 (aB f127)))))) (qbQ K)
abbrev qbS (K:KT):KT:=bu 2 (qbR K)
abbrev Kn (K:KT):KT:=(qbS K)
theorem qgu (a0 a1:AV) (m:af):AC ae 127 [a0,a1] m=(aC (AP ae) none m 164 [a0]).bind fun r1=>(aC (AP ae) none r1.2 164 [a1]).bind fun r2=>(aK false r1.1).bind fun v3=>(aK false r2.1).bind fun v4=>(ag .other .add v3 v4).bind fun v5=>(jc none 161 none (.int .u32 0) 4 r2.2 v5 v5).bind fun r6=>(aK false r1.1).bind fun v7=>GC r2.1 r6.1 r1.1 v7 (.int .i64 0) r6.2 (Km (aE ae.P f127.results.toList)):=
(bj ae 127 [a0,a1] m (fn:=f127) (c:=aB f127) qiU rfl).trans (by kernel_rfl)
theorem QX (x1 x5 jv b7 b9:AV) (m:af) (K:KT):GC x1 x5 jv b7 b9 m K=(ag .other .lss b9 b7).bind fun v1=>aw v1 ((aF none jv b9).bind fun v2=>(ai none m v2).bind fun v3=>(aK false x1).bind fun v4=>GD x1 x5 b9 v3 (.int .u64 0) jv b7 b9 x1 v4 (.int .i64 0) m (Kn K)) (K (.exit 0) (Lc x5 m)):=
(bW (bP _) _ _ _).trans (by kernel_rfl)
theorem QY (x1 x5 x6 x7 x8 jv b7 b9 FD tp pA:AV) (m:af) (K:KT):GD x1 x5 x6 x7 x8 jv b7 b9 FD tp pA m K=(ag .other .lss pA tp).bind fun v1=>aw v1 ((aF none FD pA).bind fun v2=>(ai none m v2).bind fun v3=>(ag .other .add x6 pA).bind fun v4=>(aF none x5 v4).bind fun v5=>(ai none m v5).bind fun v6=>(bq .u64 v6).bind fun v7=>(bq .u64 x7).bind fun v8=>(bq .u64 v3).bind fun v9=>(ag .other .mul v8 v9).bind fun v10=>(ag .other .add v7 v10).bind fun v11=>(ag .other .add x8 v11).bind fun v12=>(ag .other .add x6 pA).bind fun bh=>(bq .u32 v12).bind fun bg=>(aF none x5 bh).bind fun bo=>(aM none m bo bg).bind fun m16=>(ag .other .shr v12 (.int .u64 32)).bind fun bD=>(ag .other .add pA (.int .i64 1)).bind fun dQ=>GD x1 x5 x6 x7 bD jv b7 b9 FD tp dQ m16 K) (K (.exit 2) (Ld x1 x5 x6 x8 jv b7 b9 m)):=
(bW (bP _) _ _ _).trans (by kernel_rfl)
theorem qbO (x5:AV) (m:af):Km (aE ae.P f127.results.toList) (.exit 0) (Lc x5 m)=(aC (AP ae) none m 164 [x5]).bind fun r1=>some (r1.1,r1.2):=by kernel_rfl
theorem qbT (x1 x5 x6 x8 jv b7 b9:AV) (m:af) (K:KT):Kn K (.exit 2) (Ld x1 x5 x6 x8 jv b7 b9 m)=(aK false x1).bind fun v1=>(ag .other .add x6 v1).bind fun v2=>(bq .u32 x8).bind fun v3=>(aF none x5 v2).bind fun v4=>(aM none m v4 v3).bind fun m5=>(ag .other .add b9 (.int .i64 1)).bind fun v6=>GC x1 x5 jv b7 v6 m5 K:=by kernel_rfl
def Hn (x5 x6:AV) (m:af):St:=⟨(aO (aG (x5::x6::bA (bw (aO (aG [])))))),m⟩
def Ao (x1 x5 x6 cB iL vU:AV) (m:af) (K:KT):OM:=bX 130 (b6 (bm (c2 (aB f130)))) 7 (aG (x1::aJ (aG (x5::x6::bw (aG (cB::iL::vU::bA (aG []))))))) m K
abbrev qbY (K:KT):KT:=bF 130 (bm (c2 (c2 (aB f130)))) K
abbrev qbZ (K:KT):KT:=bu 0 (qbY K)
abbrev Ak (K:KT):KT:=(qbZ K)
theorem qgy (a0 a1:AV) (m:af):AC ae 130 [a0,a1] m=(aC (AP ae) none m 164 [a0]).bind fun r1=>(aC (AP ae) none r1.2 164 [a1]).bind fun r2=>(aK false r1.1).bind fun v3=>(aK false r2.1).bind fun v4=>(ag .other .lss v3 v4).bind fun v5=>aw v5 ((aK false r2.1).bind fun v6=>(ag .other .add v6 (.int .i64 1)).bind fun v7=>(jc none 161 none (.int .u32 0) 4 r2.2 (.int .i64 0) v7).bind fun r8=>(aK false r2.1).bind fun v9=>Ao r1.1 r8.1 (.int .u64 0) r2.1 v9 (.int .i64 0) r8.2 (Ak (aE ae.P f130.results.toList))) ((aK false r1.1).bind fun v10=>(ag .other .add v10 (.int .i64 1)).bind fun v11=>(jc none 161 none (.int .u32 0) 4 r2.2 (.int .i64 0) v11).bind fun gF=>(aK false r1.1).bind fun bh=>Ao r2.1 gF.1 (.int .u64 0) r1.1 bh (.int .i64 0) gF.2 (Ak (aE ae.P f130.results.toList))):=
(bj ae 130 [a0,a1] m (fn:=f130) (c:=aB f130) qiX rfl).trans (by kernel_rfl)
theorem Q1 (x1 x5 x6 cB iL vU:AV) (m:af) (K:KT):Ao x1 x5 x6 cB iL vU m K=(ag .other .lss vU iL).bind fun v1=>aw v1 ((aF none cB vU).bind fun v2=>(ai none m v2).bind fun v3=>(bq .u64 v3).bind fun v4=>(ag .other .add x6 v4).bind fun v5=>(aK false x1).bind fun v6=>(ag .other .lss vU v6).bind fun v7=>aw v7 ((aF none x1 vU).bind fun v8=>(ai none m v8).bind fun v9=>(bq .u64 v9).bind fun v10=>(ag .other .add v5 v10).bind fun v11=>(bq .u32 v11).bind fun v12=>(dH none [v12]).bind fun bh=>(ck none false 161 none 4 m x5 bh).bind fun jP=>(ag .other .shr v11 (.int .u64 32)).bind fun bo=>(ag .other .add vU (.int .i64 1)).bind fun bL=>Ao x1 jP.1 bo cB iL bL jP.2 K) ((bq .u32 v5).bind fun bD=>(dH none [bD]).bind fun dQ=>(ck none false 161 none 4 m x5 dQ).bind fun pq=>(ag .other .shr v5 (.int .u64 32)).bind fun v20=>(ag .other .add vU (.int .i64 1)).bind fun v21=>Ao x1 pq.1 v20 cB iL v21 pq.2 K)) (K (.exit 0) (Hn x5 x6 m)):=
(bW (bP _) _ _ _).trans (by kernel_rfl)
theorem qb0 (x5 x6:AV) (m:af):Ak (aE ae.P f130.results.toList) (.exit 0) (Hn x5 x6 m)=(bq .u32 x6).bind fun v1=>(dH none [v1]).bind fun v2=>(ck none false 161 none 4 m x5 v2).bind fun r3=>(aC (AP ae) none r3.2 164 [r3.1]).bind fun r4=>some (r4.1,r4.2):=by kernel_rfl
def Le (m:af):St:=⟨(bA (bw (aG []))),m⟩
def Hy (x4:AV) (m:af):St:=⟨(aO (x4::bA (aX (aO [])))),m⟩
def GG (x0 x1 x5:AV) (m:af) (K:KT):OM:=bX 131 (b6 (c2 (c2 (c2 (aB f131))))) 7 (x0::x1::aJ (aG (x5::bA (aX (aJ (aG [])))))) m K
abbrev qb1 (K:KT):KT:=bF 131 (bm (aB f131)) K
abbrev qb2 (K:KT):KT:=bu 1 (qb1 K)
abbrev FU (K:KT):KT:=(qb2 K)
theorem qgA (a0 a1:AV) (m:af):AC ae 131 [a0,a1] m=(aC (AP ae) none m 164 [a0]).bind fun r1=>(aC (AP ae) none r1.2 164 [a1]).bind fun r2=>(aK false r1.1).bind fun v3=>(aK false r2.1).bind fun v4=>(ag .other .lss v3 v4).bind fun v5=>aw v5 (some ((.int .i64 (-1)),r2.2)) ((aK false r1.1).bind fun v6=>(aK false r2.1).bind fun v7=>(ag .other .gtr v6 v7).bind fun v8=>aw v8 (some ((.int .i64 1),r2.2)) ((aK false r1.1).bind fun v9=>(ag .other .sub v9 (.int .i64 1)).bind fun v10=>GG r1.1 r2.1 v10 r2.2 (FU (aE ae.P f131.results.toList)))):=
(bj ae 131 [a0,a1] m (fn:=f131) (c:=aB f131) qiY rfl).trans (by kernel_rfl)
theorem Q2 (x0 x1 x5:AV) (m:af) (K:KT):GG x0 x1 x5 m K=(ag .other .geq x5 (.int .i64 0)).bind fun v1=>aw v1 ((aF none x0 x5).bind fun v2=>(ai none m v2).bind fun v3=>(aF none x1 x5).bind fun v4=>(ai none m v4).bind fun v5=>(ag .other .lss v3 v5).bind fun v6=>aw v6 (K .ret (Hy (.int .i64 (-1)) m)) ((aF none x0 x5).bind fun v7=>(ai none m v7).bind fun v8=>(aF none x1 x5).bind fun v9=>(ai none m v9).bind fun v10=>(ag .other .gtr v8 v10).bind fun v11=>aw v11 (K .ret (Hy (.int .i64 1) m)) ((ag .other .sub x5 (.int .i64 1)).bind fun v12=>GG x0 x1 v12 m K))) (K (.exit 1) (Le m)):=
(bW (bP _) _ _ _).trans (by kernel_rfl)
theorem qb4 (m:af):FU (aE ae.P f131.results.toList) (.exit 1) (Le  m)=some ((.int .i64 0),m):=by kernel_rfl
theorem qb3 (x4:AV) (m:af):FU (aE ae.P f131.results.toList) .ret (Hy x4 m)=some (x4,m):=by kernel_rfl
def Lf (x6:AV) (m:af):St:=⟨(aO (aJ (x6::bA (bw (aO []))))),m⟩
def yb (x1 x6 x7 b7 b9 cB:AV) (m:af) (K:KT):OM:=bX 132 (b6 (bm (c2 (aB f132)))) 7 (aG (x1::aO (x6::x7::aX (aO (aJ (b7::b9::cB::bA (aJ []))))))) m K
abbrev qb5 (K:KT):KT:=bF 132 (bm (c2 (c2 (aB f132)))) K
abbrev qb6 (K:KT):KT:=bu 0 (qb5 K)
abbrev Ko (K:KT):KT:=(qb6 K)
theorem SE (a0 a1:AV) (m:af):AC ae 132 [a0,a1] m=(aC (AP ae) none m 131 [a0,a1]).bind fun r1=>(ag .other .lss r1.1 (.int .i64 0)).bind fun v2=>aw v2 (some ((.tup [aq,(.int .i64 1)]),r1.2)) ((aC (AP ae) none r1.2 164 [a0]).bind fun r3=>(aC (AP ae) none r3.2 164 [a1]).bind fun r4=>(aK false r3.1).bind fun v5=>(jc none 161 none (.int .u32 0) 4 r4.2 v5 v5).bind fun r6=>(aK false r3.1).bind fun v7=>yb r4.1 r6.1 (.int .u64 0) r3.1 v7 (.int .i64 0) r6.2 (Ko (aE ae.P f132.results.toList))):=
(bj ae 132 [a0,a1] m (fn:=f132) (c:=aB f132) qiZ rfl).trans (by kernel_rfl)
theorem Q3 (x1 x6 x7 b7 b9 cB:AV) (m:af) (K:KT):yb x1 x6 x7 b7 b9 cB m K=(ag .other .lss cB b9).bind fun v1=>aw v1 ((aF none b7 cB).bind fun v2=>(ai none m v2).bind fun v3=>(aK false x1).bind fun v4=>(ag .other .lss cB v4).bind fun v5=>aw v5 ((aF none x1 cB).bind fun v6=>(ai none m v6).bind fun v7=>(bq .u64 v7).bind fun v8=>(ag .other .add x7 v8).bind fun v9=>(bq .u64 v3).bind fun v10=>(ag .other .lss v10 v9).bind fun v11=>aw v11 ((bq .u64 v3).bind fun v12=>(ag .other .shl (.int .u64 1) (.int .u64 32)).bind fun bh=>(ag .other .add v12 bh).bind fun bg=>(ag .other .sub bg v9).bind fun bo=>(bq .u32 bo).bind fun bL=>(aF none x6 cB).bind fun bD=>(aM none m bD bL).bind fun m18=>(ag .other .add cB (.int .i64 1)).bind fun c8=>yb x1 x6 (.int .u64 1) b7 b9 c8 m18 K) ((bq .u64 v3).bind fun v20=>(ag .other .shl (.int .u64 0) (.int .u64 32)).bind fun v21=>(ag .other .add v20 v21).bind fun v22=>(ag .other .sub v22 v9).bind fun v23=>(bq .u32 v23).bind fun v24=>(aF none x6 cB).bind fun v25=>(aM none m v25 v24).bind fun m26=>(ag .other .add cB (.int .i64 1)).bind fun jt=>yb x1 x6 (.int .u64 0) b7 b9 jt m26 K)) ((bq .u64 v3).bind fun v28=>(ag .other .lss v28 x7).bind fun jS=>aw jS ((bq .u64 v3).bind fun v30=>(ag .other .shl (.int .u64 1) (.int .u64 32)).bind fun v31=>(ag .other .add v30 v31).bind fun lW=>(ag .other .sub lW x7).bind fun oV=>(bq .u32 oV).bind fun pW=>(aF none x6 cB).bind fun mG=>(aM none m mG pW).bind fun m36=>(ag .other .add cB (.int .i64 1)).bind fun v37=>yb x1 x6 (.int .u64 1) b7 b9 v37 m36 K) ((bq .u64 v3).bind fun tm=>(ag .other .shl (.int .u64 0) (.int .u64 32)).bind fun uC=>(ag .other .add tm uC).bind fun v40=>(ag .other .sub v40 x7).bind fun zW=>(bq .u32 zW).bind fun P8=>(aF none x6 cB).bind fun Fl=>(aM none m Fl P8).bind fun m44=>(ag .other .add cB (.int .i64 1)).bind fun zX=>yb x1 x6 (.int .u64 0) b7 b9 zX m44 K))) (K (.exit 0) (Lf x6 m)):=
(bW (bP _) _ _ _).trans (by kernel_rfl)
theorem qb7 (x6:AV) (m:af):Ko (aE ae.P f132.results.toList) (.exit 0) (Lf x6 m)=(aC (AP ae) none m 164 [x6]).bind fun r1=>some ((.tup [r1.1,(.int .i64 0)]),r1.2):=by kernel_rfl
theorem qgs (a0:AV) (m:af):AC ae 123 [a0] m=(bq .u32 a0).bind fun v1=>(ag .other .shr a0 (.int .u64 32)).bind fun v2=>(bq .u32 v2).bind fun v3=>(dH none [v1,v3]).bind fun v4=>(aC (AP ae) none m 164 [v4]).bind fun r5=>(aC (AP ae) none r5.2 163 [r5.1]).bind fun r6=>some (r6.1,r6.2):=
(bj ae 123 [a0] m (fn:=f123) (c:=aB f123) qiQ rfl).trans (by kernel_rfl)
theorem qgY (a0:AV) (m:af):AC ae 181 [a0] m=(aK false a0).bind fun v1=>(ag .other .eql v1 (.int .i64 0)).bind fun v2=>aw v2 (some ((.bool true),m)) ((aK false a0).bind fun v3=>(ag .other .sub v3 (.int .i64 1)).bind fun v4=>(aF none a0 v4).bind fun v5=>(ai none m v5).bind fun v6=>(ag .other .neq v6 (.int .u32 0)).bind fun v7=>some (v7,m)):=
(bj ae 181 [a0] m (fn:=f181) (c:=aB f181) qjy rfl).trans (by kernel_rfl)
theorem qgZ (a0:AV) (m:af):AC ae 182 [a0] m=(aC (AP ae) none m 164 [a0]).bind fun r1=>(aK false r1.1).bind fun v2=>(ag .other .eql v2 (.int .i64 0)).bind fun v3=>aw v3 (some ((.tup [(.int .u64 0),(.bool true)]),r1.2)) ((ag .other .eql v2 (.int .i64 1)).bind fun v4=>aw v4 ((aF none r1.1 (.int .i64 0)).bind fun v5=>(ai none r1.2 v5).bind fun v6=>(bq .u64 v6).bind fun v7=>some ((.tup [v7,(.bool true)]),r1.2)) ((ag .other .eql v2 (.int .i64 2)).bind fun v8=>aw v8 ((aF none r1.1 (.int .i64 0)).bind fun v9=>(ai none r1.2 v9).bind fun v10=>(bq .u64 v10).bind fun v11=>(aF none r1.1 (.int .i64 1)).bind fun v12=>(ai none r1.2 v12).bind fun bh=>(bq .u64 bh).bind fun bg=>(ag .other .shl bg (.int .u64 32)).bind fun bo=>(ag .other .or v11 bo).bind fun bL=>some ((.tup [bL,(.bool true)]),r1.2)) (some ((.tup [(.int .u64 0),(.bool false)]),r1.2)))):=
(bj ae 182 [a0] m (fn:=f182) (c:=aB f182) qjz rfl).trans (by kernel_rfl)
def Lp (x0:AV) (m:af):St:=⟨(x0::bw (aX (aG []))),m⟩
def GW (x0 x1:AV) (m:af) (K:KT):OM:=bX 183 (nM (c2 (aB f183))) 2 (x0::x1::bw (aX [])) m K
abbrev qdm (K:KT):KT:=bF 183 (c2 (c2 (c2 (aB f183)))) K
abbrev qdn (K:KT):KT:=bu 0 (qdm K)
abbrev KA (K:KT):KT:=(qdn K)
theorem qg0 (a0 a1:AV) (m:af):AC ae 183 [a0,a1] m=(aC (AP ae) none m 164 [a0]).bind fun r1=>(aC (AP ae) none r1.2 164 [a1]).bind fun r2=>GW r1.1 r2.1 r2.2 (KA (aE ae.P f183.results.toList)):=
(bj ae 183 [a0,a1] m (fn:=f183) (c:=aB f183) qjA rfl).trans (by kernel_rfl)
theorem qfV (x0 x1:AV) (m:af) (K:KT):GW x0 x1 m K=(aK false x1).bind fun v1=>(ag .other .gtr v1 (.int .i64 0)).bind fun v2=>aw v2 ((aC (AP ae) none m 187 [x0,x1]).bind fun r3=>(aZ r3.1 0).bind fun v4=>(aZ r3.1 1).bind fun v5=>(aZ r3.1 2).bind fun v6=>GW x1 v5 r3.2 K) (K (.exit 0) (Lp x0 m)):=
(bW (bP _) _ _ _).trans (by kernel_rfl)
theorem qdo (x0:AV) (m:af):KA (aE ae.P f183.results.toList) (.exit 0) (Lp x0 m)=(aC (AP ae) none m 163 [x0]).bind fun r1=>some (r1.1,r1.2):=by kernel_rfl
def Hp (x0 x3:AV) (m:af):St:=⟨(x0::aJ (x3::bw (aG []))),m⟩
def GN (x0 x3:AV) (m:af) (K:KT):OM:=bX 164 (nM (c2 (aB f164))) 2 (x0::aJ (x3::bw (aG []))) m K
abbrev qcC (K:KT):KT:=bF 164 (c2 (c2 (c2 (aB f164)))) K
abbrev qcD (K:KT):KT:=bu 0 (qcC K)
abbrev Kt (K:KT):KT:=(qcD K)
theorem qgR (a0:AV) (m:af):AC ae 164 [a0] m=(aK false a0).bind fun v1=>GN a0 v1 m (Kt (aE ae.P f164.results.toList)):=
(bj ae 164 [a0] m (fn:=f164) (c:=aB f164) qjm rfl).trans (by kernel_rfl)
theorem Re (x0 x3:AV) (m:af) (K:KT):GN x0 x3 m K=(ag .other .gtr x3 (.int .i64 0)).bind fun v1=>aw v1 ((ag .other .sub x3 (.int .i64 1)).bind fun v2=>(aF none x0 v2).bind fun v3=>(ai none m v3).bind fun v4=>(ag .other .eql v4 (.int .u32 0)).bind fun v5=>aw v5 ((ag .other .sub x3 (.int .i64 1)).bind fun v6=>GN x0 v6 m K) (K (.exit 0) (Hp x0 x3 m))) (K (.exit 0) (Hp x0 x3 m)):=
(bW (bP _) _ _ _).trans (by kernel_rfl)
theorem qcE (x0 x3:AV) (m:af):Kt (aE ae.P f164.results.toList) (.exit 0) (Hp x0 x3 m)=(n5 none x0 none (some x3) none).bind fun v1=>some (v1,m):=by kernel_rfl
theorem L6 (a0:AV) (m:af):AC ae 163 [a0] m=(ag .sl .eql a0 aq).bind fun v1=>aw v1 (some (aq,m)) ((dH none []).bind fun v2=>(ck none false 161 none 4 m v2 a0).bind fun r3=>some (r3.1,r3.2)):=
(bj ae 163 [a0] m (fn:=f163) (c:=aB f163) qjl rfl).trans (by kernel_rfl)
def Lq (x9 aH aN aV:AV) (m:af):St:=⟨(aX (aG (x9::aH::aG (aN::aV::bp (bp (bp (bp (bA (aX (aO (aG []))))))))))),m⟩
def CT (x9 aH aY aN aV aW:AV) (m:af) (K:KT):OM:=bX 187 (b6 (bm (c2 (c2 (c2 (aB f187)))))) 14 (aX (aG (x9::aH::aY::aN::aV::aW::bp (bp (bp (bp (bA (aX (aO []))))))))) m K
def yh (x9 aH aY aN aV aW bT:AV) (m:af):St:=⟨(aX (aG (x9::aH::aY::aN::aV::aW::aG (bT::bp (bp (bp (bp (bA (aX (aJ [])))))))))),m⟩
def Av (x9 aH aY aN aV aW bT dN:AV) (m:af) (K:KT):OM:=bX 187 (nM (tP (b6 (bm (c2 (c2 (c2 (aB f187)))))))) 18 (aX (aG (x9::aH::aY::aN::aV::aW::aG (bT::dN::bp (bp (bp (bp (bA (aX (aG [])))))))))) m K
def Lr (x9 aH aY aN aV aW bT de gU:AV) (m:af):St:=⟨(aX (aG (x9::aH::aY::aN::aV::aW::aG (bT::aG (de::gU::bp (bp (bp (bp (bA (aO (aJ (aG [])))))))))))),m⟩
def CU (x9 aH aY aN aV aW bT de gU Cn rO:AV) (m:af) (K:KT):OM:=bX 187 (b6 (bm (b6 (np (bm (c2 (c2 (aB f187)))))))) 24 (aX (aG (x9::aH::aY::aN::aV::aW::aG (bT::aG (de::gU::bp (bp (aX (aJ (Cn::rO::bp (bp (bw (aX (aJ (aG [])))))))))))))) m K
def Ls (x9 aH aY aN aV aW bT gU:AV) (m:af):St:=⟨(aX (aG (x9::aH::aY::aN::aV::aW::aG (bT::aJ (gU::bp (bp (bp (bp (bA (aO (aJ (aG [])))))))))))),m⟩
def GX (x9 aH aY aN aV aW bT gU FC xQ:AV) (m:af) (K:KT):OM:=bX 187 (b6 (MG (A5 (bm (tP (b6 (bm (c2 (c2 (c2 (aB f187))))))))))) 41 (aX (aG (x9::aH::aY::aN::aV::aW::aG (bT::aJ (gU::bp (bp (bp (bw (aO (aJ (aG (FC::xQ::bp (aX (aO (aJ []))))))))))))))) m K
def Lt (aV iL:AV) (m:af):St:=⟨(aX (aO (aG (aV::aX (aJ (aG (iL::bp (bp (bp (bp (bA (aG [])))))))))))),m⟩
def CW (x9 aH aV iL Co tn:AV) (m:af) (K:KT):OM:=bX 187 (b6 (bm (bm (c2 (aB f187))))) 51 (aX (aG (x9::aH::aJ (aV::aX (aJ (aG (iL::bp (bp (bp (bA (bw (aX (aO (aJ (aG (Co::tn::bA [])))))))))))))))) m K
abbrev qds (K:KT):KT:=bF 187 (bm (bm (aB f187))) K
abbrev qdt (K:KT):KT:=bu 1 (qds K)
abbrev KC (K:KT):KT:=(qdt K)
abbrev qdv (K:KT):KT:=bF 187 (l9 (p7 (bm (c2 (aB f187))))) (nY 187 (b6 (bm (c2 (c2 (c2 (aB f187)))))) 14 K)
abbrev qdw (K:KT):KT:=bu 2 (qdv K)
abbrev qdx (K:KT):KT:=bF 187 (lE (H8 (p7 (bm (c2 (aB f187)))))) (qdw K)
abbrev qdy (K:KT):KT:=bu 3 (qdx K)
abbrev KD (K:KT):KT:=(qdy K)
abbrev qdL (K:KT):KT:=bF 187 (bm (bm (c2 (c2 (aB f187))))) K
abbrev qdM (K:KT):KT:=bu 9 (qdL K)
abbrev KG (K:KT):KT:=(qdM K)
abbrev qdA (K:KT):KT:=bF 187 (l9 (p7 (bm (c2 (aB f187))))) (nY 187 (b6 (bm (c2 (c2 (c2 (aB f187)))))) 14 K)
abbrev qdB (K:KT):KT:=bu 2 (qdA K)
abbrev qdC (K:KT):KT:=bF 187 (bm (tP (b6 (bm (c2 (c2 (c2 (aB f187)))))))) (qdB K)
abbrev qdD (K:KT):KT:=bu 5 (qdC K)
abbrev KE (K:KT):KT:=(qdD K)
abbrev qdF (K:KT):KT:=bF 187 (l9 (p7 (bm (c2 (aB f187))))) (nY 187 (b6 (bm (c2 (c2 (c2 (aB f187)))))) 14 K)
abbrev qdG (K:KT):KT:=bu 2 (qdF K)
abbrev qdH (K:KT):KT:=bF 187 (bm (bm (tP (b6 (bm (c2 (c2 (c2 (aB f187))))))))) (qdG K)
abbrev qdI (K:KT):KT:=bF 187 (lE (p7 (bm (l9 (tP (A5 (bm (aB f187)))))))) (qdH K)
abbrev qdJ (K:KT):KT:=bu 7 (qdI K)
abbrev KF (K:KT):KT:=(qdJ K)
theorem HH (a0 a1:AV) (m:af):AC ae 187 [a0,a1] m=(aC (AP ae) none m 164 [a0]).bind fun r1=>(aC (AP ae) none r1.2 164 [a1]).bind fun r2=>(aK false r2.1).bind fun v3=>(ag .other .eql v3 (.int .i64 0)).bind fun v4=>aw v4 (some ((.tup [aq,aq,(.int .i64 31)]),r2.2)) ((aC (AP ae) none r2.2 131 [r1.1,r2.1]).bind fun r5=>(ag .other .lss r5.1 (.int .i64 0)).bind fun v6=>aw v6 ((aC (AP ae) none r5.2 163 [r1.1]).bind fun r7=>some ((.tup [aq,r7.1,(.int .i64 0)]),r7.2)) ((aK false r2.1).bind fun v8=>(ag .other .eql v8 (.int .i64 1)).bind fun v9=>aw v9 ((aF none r2.1 (.int .i64 0)).bind fun v10=>(ai none r5.2 v10).bind fun v11=>(aC (AP ae) none r5.2 202 [r1.1,v11]).bind fun gF=>(aZ gF.1 0).bind fun bh=>(aZ gF.1 1).bind fun bg=>(bq .u64 bg).bind fun bo=>(aC (AP ae) none gF.2 123 [bo]).bind fun fJ=>some ((.tup [bh,fJ.1,(.int .i64 0)]),fJ.2)) ((aK false r2.1).bind fun bD=>(ag .other .sub bD (.int .i64 1)).bind fun dQ=>(aF none r2.1 dQ).bind fun c8=>(ai none r5.2 c8).bind fun v20=>(aC (AP ae) none r5.2 203 [v20]).bind fun uu=>(bq .u64 uu.1).bind fun v22=>(AC ae 204 [r1.1,v22] uu.2).bind fun lh=>(AC ae 204 [r2.1,v22] lh.2).bind fun mE=>(aC (AP ae) none mE.2 164 [mE.1]).bind fun mY=>(aK false mY.1).bind fun v26=>(aK false lh.1).bind fun jt=>(ag .other .sub jt v26).bind fun v28=>(jc none 161 none (.int .u32 0) 4 mY.2 v28 v28).bind fun YX=>(aK false lh.1).bind fun v30=>(ag .other .sub v30 v26).bind fun v31=>(ag .other .sub v31 (.int .i64 1)).bind fun lW=>CT v22 lh.1 mY.1 v26 YX.1 lW YX.2 (KC (aE ae.P f187.results.toList))))):=
(bj ae 187 [a0,a1] m (fn:=f187) (c:=aB f187) qjC rfl).trans (by kernel_rfl)
theorem Rq (x9 aH aY aN aV aW:AV) (m:af) (K:KT):CT x9 aH aY aN aV aW m K=(ag .other .geq aW (.int .i64 0)).bind fun v1=>aw v1 ((ag .other .add aW aN).bind fun v2=>(aF none aH v2).bind fun v3=>(ai none m v3).bind fun v4=>(bq .u64 v4).bind fun v5=>(ag .other .shl v5 (.int .u64 32)).bind fun v6=>(ag .other .add aW aN).bind fun v7=>(ag .other .sub v7 (.int .i64 1)).bind fun v8=>(aF none aH v8).bind fun v9=>(ai none m v9).bind fun v10=>(bq .u64 v10).bind fun v11=>(ag .other .or v6 v11).bind fun v12=>(ag .other .sub aN (.int .i64 1)).bind fun bh=>(aF none aY bh).bind fun bg=>(ai none m bg).bind fun bo=>(bq .u64 bo).bind fun bL=>(ag .other .quo v12 bL).bind fun bD=>(ag .other .sub aN (.int .i64 1)).bind fun dQ=>(aF none aY dQ).bind fun c8=>(ai none m c8).bind fun v20=>(bq .u64 v20).bind fun v21=>(ag .other .rem v12 v21).bind fun v22=>Av x9 aH aY aN aV aW bD v22 m (KD K)) (K (.exit 1) (Lq x9 aH aN aV m)):=
(bW (bP _) _ _ _).trans (by kernel_rfl)
theorem qfW (x9 aH aY aN aV aW bT dN:AV) (m:af) (K:KT):Av x9 aH aY aN aV aW bT dN m K=(ag .other .geq bT (.int .u64 4294967296)).bind fun v1=>aw v1 ((ag .other .sub bT (.int .u64 1)).bind fun v2=>(ag .other .sub aN (.int .i64 1)).bind fun v3=>(aF none aY v3).bind fun v4=>(ai none m v4).bind fun v5=>(bq .u64 v5).bind fun v6=>(ag .other .add dN v6).bind fun v7=>(ag .other .geq v7 (.int .u64 4294967296)).bind fun v8=>aw v8 (K (.exit 3) (yh x9 aH aY aN aV aW v2 m)) (Av x9 aH aY aN aV aW v2 v7 m K)) ((ag .other .sub aN (.int .i64 2)).bind fun v9=>(aF none aY v9).bind fun v10=>(ai none m v10).bind fun v11=>(bq .u64 v11).bind fun v12=>(ag .other .mul bT v12).bind fun bh=>(ag .other .shl dN (.int .u64 32)).bind fun bg=>(ag .other .add aW aN).bind fun bo=>(ag .other .sub bo (.int .i64 2)).bind fun bL=>(aF none aH bL).bind fun bD=>(ai none m bD).bind fun dQ=>(bq .u64 dQ).bind fun c8=>(ag .other .or bg c8).bind fun v20=>(ag .other .gtr bh v20).bind fun v21=>aw v21 ((ag .other .sub bT (.int .u64 1)).bind fun v22=>(ag .other .sub aN (.int .i64 1)).bind fun v23=>(aF none aY v23).bind fun v24=>(ai none m v24).bind fun v25=>(bq .u64 v25).bind fun v26=>(ag .other .add dN v26).bind fun jt=>(ag .other .geq jt (.int .u64 4294967296)).bind fun v28=>aw v28 (K (.exit 3) (yh x9 aH aY aN aV aW v22 m)) (Av x9 aH aY aN aV aW v22 jt m K)) (K (.exit 3) (yh x9 aH aY aN aV aW bT m))):=
(bW (bP _) _ _ _).trans (by kernel_rfl)
theorem Rr (x9 aH aY aN aV aW bT de gU Cn rO:AV) (m:af) (K:KT):CU x9 aH aY aN aV aW bT de gU Cn rO m K=(ag .other .lss rO Cn).bind fun v1=>aw v1 ((aF none aY rO).bind fun v2=>(ai none m v2).bind fun v3=>(bq .u64 v3).bind fun v4=>(ag .other .mul bT v4).bind fun v5=>(ag .other .add gU v5).bind fun v6=>(ag .other .and v6 (.int .u64 4294967295)).bind fun v7=>(ag .other .add v7 de).bind fun v8=>(ag .other .add rO aW).bind fun v9=>(aF none aH v9).bind fun v10=>(ai none m v10).bind fun v11=>(bq .u64 v11).bind fun v12=>(ag .other .lss v12 v8).bind fun bh=>aw bh ((ag .other .add rO aW).bind fun bg=>(ag .other .add rO aW).bind fun bo=>(aF none aH bo).bind fun bL=>(ai none m bL).bind fun bD=>(bq .u64 bD).bind fun dQ=>(ag .other .shl (.int .u64 1) (.int .u64 32)).bind fun c8=>(ag .other .add dQ c8).bind fun v20=>(ag .other .sub v20 v8).bind fun v21=>(bq .u32 v21).bind fun v22=>(aF none aH bg).bind fun v23=>(aM none m v23 v22).bind fun m24=>(ag .other .shr v6 (.int .u64 32)).bind fun v25=>(ag .other .add rO (.int .i64 1)).bind fun v26=>CU x9 aH aY aN aV aW bT (.int .u64 1) v25 Cn v26 m24 K) ((ag .other .add rO aW).bind fun jt=>(ag .other .add rO aW).bind fun v28=>(aF none aH v28).bind fun jS=>(ai none m jS).bind fun v30=>(bq .u64 v30).bind fun v31=>(ag .other .shl (.int .u64 0) (.int .u64 32)).bind fun lW=>(ag .other .add v31 lW).bind fun oV=>(ag .other .sub oV v8).bind fun pW=>(bq .u32 pW).bind fun mG=>(aF none aH jt).bind fun tj=>(aM none m tj mG).bind fun m37=>(ag .other .shr v6 (.int .u64 32)).bind fun tm=>(ag .other .add rO (.int .i64 1)).bind fun uC=>CU x9 aH aY aN aV aW bT (.int .u64 0) tm Cn uC m37 K)) (K (.exit 5) (Lr x9 aH aY aN aV aW bT de gU m)):=
(bW (bP _) _ _ _).trans (by kernel_rfl)
theorem Rs (x9 aH aY aN aV aW bT gU FC xQ:AV) (m:af) (K:KT):GX x9 aH aY aN aV aW bT gU FC xQ m K=(ag .other .lss xQ FC).bind fun v1=>aw v1 ((ag .other .add xQ aW).bind fun v2=>(aF none aH v2).bind fun v3=>(ai none m v3).bind fun v4=>(bq .u64 v4).bind fun v5=>(aF none aY xQ).bind fun v6=>(ai none m v6).bind fun v7=>(bq .u64 v7).bind fun v8=>(ag .other .add v5 v8).bind fun v9=>(ag .other .add gU v9).bind fun v10=>(ag .other .add xQ aW).bind fun v11=>(bq .u32 v10).bind fun v12=>(aF none aH v11).bind fun bh=>(aM none m bh v12).bind fun m14=>(ag .other .shr v10 (.int .u64 32)).bind fun bo=>(ag .other .add xQ (.int .i64 1)).bind fun bL=>GX x9 aH aY aN aV aW bT bo FC bL m14 K) (K (.exit 7) (Ls x9 aH aY aN aV aW bT gU m)):=
(bW (bP _) _ _ _).trans (by kernel_rfl)
theorem Rt (x9 aH aV iL Co tn:AV) (m:af) (K:KT):CW x9 aH aV iL Co tn m K=(ag .other .lss tn Co).bind fun v1=>aw v1 ((aF none aH tn).bind fun v2=>(ai none m v2).bind fun v3=>(ag .other .shr v3 x9).bind fun v4=>(aF none iL tn).bind fun v5=>(aM none m v5 v4).bind fun m6=>(ag .other .gtr x9 (.int .u64 0)).bind fun v7=>aw v7 ((aF none iL tn).bind fun v8=>(ai none m6 v8).bind fun v9=>(ag .other .add tn (.int .i64 1)).bind fun v10=>(aF none aH v10).bind fun v11=>(ai none m6 v11).bind fun v12=>(ag .other .sub (.int .u64 32) x9).bind fun bh=>(ag .other .shl v12 bh).bind fun bg=>(ag .other .or v9 bg).bind fun bo=>(aF none iL tn).bind fun bL=>(aM none m6 bL bo).bind fun m17=>(ag .other .add tn (.int .i64 1)).bind fun dQ=>CW x9 aH aV iL Co dQ m17 K) ((ag .other .add tn (.int .i64 1)).bind fun c8=>CW x9 aH aV iL Co c8 m6 K)) (K (.exit 9) (Lt aV iL m)):=
(bW (bP _) _ _ _).trans (by kernel_rfl)
theorem qdu (x9 aH aN aV:AV) (m:af):KC (aE ae.P f187.results.toList) (.exit 1) (Lq x9 aH aN aV m)=(jc none 161 none (.int .u32 0) 4 m aN aN).bind fun r1=>CW x9 aH aV r1.1 aN (.int .i64 0) r1.2 (KG (aE ae.P f187.results.toList)):=by kernel_rfl
theorem qdz (x9 aH aY aN aV aW bT:AV) (m:af) (K:KT):KD K (.exit 3) (yh x9 aH aY aN aV aW bT m)=CU x9 aH aY aN aV aW bT (.int .u64 0) (.int .u64 0) aN (.int .i64 0) m (KE K):=by kernel_rfl
theorem qdN (aV iL:AV) (m:af):KG (aE ae.P f187.results.toList) (.exit 9) (Lt aV iL m)=(aC (AP ae) none m 164 [aV]).bind fun r1=>(aC (AP ae) none r1.2 164 [iL]).bind fun r2=>some ((.tup [r1.1,r2.1,(.int .i64 0)]),r2.2):=by kernel_rfl
theorem qdE (x9 aH aY aN aV aW bT de gU:AV) (m:af) (K:KT):KE K (.exit 5) (Lr x9 aH aY aN aV aW bT de gU m)=(ag .other .add gU de).bind fun v1=>(ag .other .add aW aN).bind fun v2=>(aF none aH v2).bind fun v3=>(ai none m v3).bind fun v4=>(bq .u64 v4).bind fun v5=>(ag .other .lss v5 v1).bind fun v6=>(ag .other .add aW aN).bind fun v7=>(ag .other .add aW aN).bind fun v8=>(aF none aH v8).bind fun v9=>(ai none m v9).bind fun v10=>(bq .u64 v10).bind fun v11=>(ag .other .sub v11 v1).bind fun v12=>(bq .u32 v12).bind fun bh=>(aF none aH v7).bind fun bg=>(aM none m bg bh).bind fun m15=>aw v6 ((ag .other .sub bT (.int .u64 1)).bind fun bL=>GX x9 aH aY aN aV aW bL (.int .u64 0) aN (.int .i64 0) m15 (KF K)) ((bq .u32 bT).bind fun bD=>(aF none aV aW).bind fun dQ=>(aM none m15 dQ bD).bind fun m19=>(ag .other .sub aW (.int .i64 1)).bind fun v20=>CT x9 aH aY aN aV v20 m19 K):=by kernel_rfl
theorem qdK (x9 aH aY aN aV aW bT gU:AV) (m:af) (K:KT):KF K (.exit 7) (Ls x9 aH aY aN aV aW bT gU m)=(ag .other .add aW aN).bind fun v1=>(aF none aH v1).bind fun v2=>(ai none m v2).bind fun v3=>(bq .u32 gU).bind fun v4=>(ag .other .add v3 v4).bind fun v5=>(aF none aH v1).bind fun v6=>(aM none m v6 v5).bind fun m7=>(bq .u32 bT).bind fun v8=>(aF none aV aW).bind fun v9=>(aM none m7 v9 v8).bind fun m10=>(ag .other .sub aW (.int .i64 1)).bind fun v11=>CT x9 aH aY aN aV v11 m10 K:=by kernel_rfl
def Lw (x6 x7:AV) (m:af):St:=⟨(aO (aJ (x6::x7::bA (aJ (aG []))))),m⟩
def G1 (x0 x1 x6 x7 x8:AV) (m:af) (K:KT):OM:=bX 202 (b6 (c2 (c2 (c2 (aB f202))))) 4 (x0::x1::aO (x6::x7::x8::bA (aJ []))) m K
abbrev qd0 (K:KT):KT:=bF 202 (bm (aB f202)) K
abbrev qd1 (K:KT):KT:=bu 0 (qd0 K)
abbrev KJ (K:KT):KT:=(qd1 K)
theorem qg5 (a0 a1:AV) (m:af):AC ae 202 [a0,a1] m=(aK false a0).bind fun v1=>(jc none 161 none (.int .u32 0) 4 m v1 v1).bind fun r2=>(aK false a0).bind fun v3=>(ag .other .sub v3 (.int .i64 1)).bind fun v4=>G1 a0 a1 r2.1 (.int .u64 0) v4 r2.2 (KJ (aE ae.P f202.results.toList)):=
(bj ae 202 [a0,a1] m (fn:=f202) (c:=aB f202) qjG rfl).trans (by kernel_rfl)
theorem Rx (x0 x1 x6 x7 x8:AV) (m:af) (K:KT):G1 x0 x1 x6 x7 x8 m K=(ag .other .geq x8 (.int .i64 0)).bind fun v1=>aw v1 ((ag .other .shl x7 (.int .u64 32)).bind fun v2=>(aF none x0 x8).bind fun v3=>(ai none m v3).bind fun v4=>(bq .u64 v4).bind fun v5=>(ag .other .or v2 v5).bind fun v6=>(bq .u64 x1).bind fun v7=>(ag .other .quo v6 v7).bind fun v8=>(bq .u32 v8).bind fun v9=>(aF none x6 x8).bind fun v10=>(aM none m v10 v9).bind fun m11=>(bq .u64 x1).bind fun v12=>(ag .other .rem v6 v12).bind fun bh=>(ag .other .sub x8 (.int .i64 1)).bind fun bg=>G1 x0 x1 x6 bh bg m11 K) (K (.exit 0) (Lw x6 x7 m)):=
(bW (bP _) _ _ _).trans (by kernel_rfl)
theorem qd2 (x6 x7:AV) (m:af):KJ (aE ae.P f202.results.toList) (.exit 0) (Lw x6 x7 m)=(aC (AP ae) none m 164 [x6]).bind fun r1=>(bq .u32 x7).bind fun v2=>some ((.tup [r1.1,v2]),r1.2):=by kernel_rfl
theorem qg6 (a0:AV) (m:af):AC ae 203 [a0] m=(aC (AP ae) none m 199 [a0]).bind fun r1=>(ag .other .sub (.int .i64 32) r1.1).bind fun v2=>some (v2,r1.2):=
(bj ae 203 [a0] m (fn:=f203) (c:=aB f203) qjH rfl).trans (by kernel_rfl)
def Lx (x5:AV) (m:af):St:=⟨(aO (aG (x5::bA (aJ [])))),m⟩
def G2 (x1 x5 aN aV aW:AV) (m:af) (K:KT):OM:=bX 204 (b6 (c2 (c2 (aB f204)))) 3 (aG (x1::aJ (aG (x5::aO (aJ (aN::aV::aW::bw (aX (aG [])))))))) m K
abbrev qd3 (K:KT):KT:=bF 204 (c2 (c2 (c2 (aB f204)))) K
abbrev qd4 (K:KT):KT:=bu 0 (qd3 K)
abbrev QH (K:KT):KT:=(qd4 K)
theorem qg7 (a0 a1:AV) (m:af):AC ae 204 [a0,a1] m=(aK false a0).bind fun v1=>(ag .other .add v1 (.int .i64 1)).bind fun v2=>(jc none 161 none (.int .u32 0) 4 m v2 v2).bind fun r3=>(aK false a0).bind fun v4=>G2 a1 r3.1 a0 v4 (.int .i64 0) r3.2 (QH (aE ae.P f204.results.toList)):=
(bj ae 204 [a0,a1] m (fn:=f204) (c:=aB f204) qjI rfl).trans (by kernel_rfl)
theorem Ry (x1 x5 aN aV aW:AV) (m:af) (K:KT):G2 x1 x5 aN aV aW m K=(ag .other .lss aW aV).bind fun v1=>aw v1 ((aF none aN aW).bind fun v2=>(ai none m v2).bind fun v3=>(aF none x5 aW).bind fun v4=>(ai none m v4).bind fun v5=>(ag .other .shl v3 x1).bind fun v6=>(ag .other .or v5 v6).bind fun v7=>(aF none x5 aW).bind fun v8=>(aM none m v8 v7).bind fun m9=>(ag .other .add aW (.int .i64 1)).bind fun v10=>(bq .u64 v3).bind fun v11=>(ag .other .shl v11 x1).bind fun v12=>(ag .other .shr v12 (.int .u64 32)).bind fun bh=>(bq .u32 bh).bind fun bg=>(aF none x5 v10).bind fun bo=>(aM none m9 bo bg).bind fun m16=>(ag .other .add aW (.int .i64 1)).bind fun bD=>G2 x1 x5 aN aV bD m16 K) (K (.exit 0) (Lx x5 m)):=
(bW (bP _) _ _ _).trans (by kernel_rfl)
theorem qd5 (x5:AV) (m:af):QH (aE ae.P f204.results.toList) (.exit 0) (Lx x5 m)=some (x5,m):=by kernel_rfl
theorem qg2 (a0:AV) (m:af):AC ae 199 [a0] m=(ag .other .geq a0 (.int .u32 65536)).bind fun v1=>aw v1 ((ag .other .shr a0 (.int .u64 16)).bind fun v2=>(ag .other .geq v2 (.int .u32 256)).bind fun v3=>aw v3 ((ag .other .shr v2 (.int .u64 8)).bind fun v4=>(ag .other .add (.int .i64 16) (.int .i64 8)).bind fun v5=>(bq .u8 v4).bind fun v6=>(sX (.str ⟨⟨[0,1,2,2,3,3,3,3,4,4,4,4,4,4,4,4,5,5,5,5,5,5,5,5,5,5,5,5,5,5,5,5,6,6,6,6,6,6,6,6,6,6,6,6,6,6,6,6,6,6,6,6,6,6,6,6,6,6,6,6,6,6,6,6,7,7,7,7,7,7,7,7,7,7,7,7,7,7,7,7,7,7,7,7,7,7,7,7,7,7,7,7,7,7,7,7,7,7,7,7,7,7,7,7,7,7,7,7,7,7,7,7,7,7,7,7,7,7,7,7,7,7,7,7,7,7,7,7,8,8,8,8,8,8,8,8,8,8,8,8,8,8,8,8,8,8,8,8,8,8,8,8,8,8,8,8,8,8,8,8,8,8,8,8,8,8,8,8,8,8,8,8,8,8,8,8,8,8,8,8,8,8,8,8,8,8,8,8,8,8,8,8,8,8,8,8,8,8,8,8,8,8,8,8,8,8,8,8,8,8,8,8,8,8,8,8,8,8,8,8,8,8,8,8,8,8,8,8,8,8,8,8,8,8,8,8,8,8,8,8,8,8,8,8,8,8,8,8,8,8,8,8,8,8,8,8]⟩⟩) v6).bind fun v7=>(bq .i64 v7).bind fun v8=>(ag .other .add v5 v8).bind fun v9=>some (v9,m)) ((bq .u8 v2).bind fun v10=>(sX (.str ⟨⟨[0,1,2,2,3,3,3,3,4,4,4,4,4,4,4,4,5,5,5,5,5,5,5,5,5,5,5,5,5,5,5,5,6,6,6,6,6,6,6,6,6,6,6,6,6,6,6,6,6,6,6,6,6,6,6,6,6,6,6,6,6,6,6,6,7,7,7,7,7,7,7,7,7,7,7,7,7,7,7,7,7,7,7,7,7,7,7,7,7,7,7,7,7,7,7,7,7,7,7,7,7,7,7,7,7,7,7,7,7,7,7,7,7,7,7,7,7,7,7,7,7,7,7,7,7,7,7,7,8,8,8,8,8,8,8,8,8,8,8,8,8,8,8,8,8,8,8,8,8,8,8,8,8,8,8,8,8,8,8,8,8,8,8,8,8,8,8,8,8,8,8,8,8,8,8,8,8,8,8,8,8,8,8,8,8,8,8,8,8,8,8,8,8,8,8,8,8,8,8,8,8,8,8,8,8,8,8,8,8,8,8,8,8,8,8,8,8,8,8,8,8,8,8,8,8,8,8,8,8,8,8,8,8,8,8,8,8,8,8,8,8,8,8,8,8,8,8,8,8,8,8,8,8,8,8,8]⟩⟩) v10).bind fun v11=>(bq .i64 v11).bind fun v12=>(ag .other .add (.int .i64 16) v12).bind fun bh=>some (bh,m))) ((ag .other .geq a0 (.int .u32 256)).bind fun bg=>aw bg ((ag .other .shr a0 (.int .u64 8)).bind fun bo=>(ag .other .add (.int .i64 0) (.int .i64 8)).bind fun bL=>(bq .u8 bo).bind fun bD=>(sX (.str ⟨⟨[0,1,2,2,3,3,3,3,4,4,4,4,4,4,4,4,5,5,5,5,5,5,5,5,5,5,5,5,5,5,5,5,6,6,6,6,6,6,6,6,6,6,6,6,6,6,6,6,6,6,6,6,6,6,6,6,6,6,6,6,6,6,6,6,7,7,7,7,7,7,7,7,7,7,7,7,7,7,7,7,7,7,7,7,7,7,7,7,7,7,7,7,7,7,7,7,7,7,7,7,7,7,7,7,7,7,7,7,7,7,7,7,7,7,7,7,7,7,7,7,7,7,7,7,7,7,7,7,8,8,8,8,8,8,8,8,8,8,8,8,8,8,8,8,8,8,8,8,8,8,8,8,8,8,8,8,8,8,8,8,8,8,8,8,8,8,8,8,8,8,8,8,8,8,8,8,8,8,8,8,8,8,8,8,8,8,8,8,8,8,8,8,8,8,8,8,8,8,8,8,8,8,8,8,8,8,8,8,8,8,8,8,8,8,8,8,8,8,8,8,8,8,8,8,8,8,8,8,8,8,8,8,8,8,8,8,8,8,8,8,8,8,8,8,8,8,8,8,8,8,8,8,8,8,8,8]⟩⟩) bD).bind fun dQ=>(bq .i64 dQ).bind fun c8=>(ag .other .add bL c8).bind fun v20=>some (v20,m)) ((bq .u8 a0).bind fun v21=>(sX (.str ⟨⟨[0,1,2,2,3,3,3,3,4,4,4,4,4,4,4,4,5,5,5,5,5,5,5,5,5,5,5,5,5,5,5,5,6,6,6,6,6,6,6,6,6,6,6,6,6,6,6,6,6,6,6,6,6,6,6,6,6,6,6,6,6,6,6,6,7,7,7,7,7,7,7,7,7,7,7,7,7,7,7,7,7,7,7,7,7,7,7,7,7,7,7,7,7,7,7,7,7,7,7,7,7,7,7,7,7,7,7,7,7,7,7,7,7,7,7,7,7,7,7,7,7,7,7,7,7,7,7,7,8,8,8,8,8,8,8,8,8,8,8,8,8,8,8,8,8,8,8,8,8,8,8,8,8,8,8,8,8,8,8,8,8,8,8,8,8,8,8,8,8,8,8,8,8,8,8,8,8,8,8,8,8,8,8,8,8,8,8,8,8,8,8,8,8,8,8,8,8,8,8,8,8,8,8,8,8,8,8,8,8,8,8,8,8,8,8,8,8,8,8,8,8,8,8,8,8,8,8,8,8,8,8,8,8,8,8,8,8,8,8,8,8,8,8,8,8,8,8,8,8,8,8,8,8,8,8,8]⟩⟩) v21).bind fun v22=>(bq .i64 v22).bind fun v23=>(ag .other .add (.int .i64 0) v23).bind fun v24=>some (v24,m))):=
(bj ae 199 [a0] m (fn:=f199) (c:=aB f199) qjD rfl).trans (by kernel_rfl)
end
end Go.Ab
namespace Go.Ab
open Go.Proofs.Tryz
theorem qfU (x:NV) (m:af) (K:KT):∀ n:Nat,n<=x.ds.length->x.ds.length < 2 ^ 62->GN x.av (.int .i64 n) m K=K (.exit 0) (Hp x.av (.int .i64 (lV x.ds n)) m):=by
 intro n
 induction n with
 | zero=>
  intro _ _;rw[Re];simp[gY,aw,lV]
 | succ n ih=>
  intro hn hl;have ih:=ih (by omega) hl;rw[Re];have h1:((n+1:Nat):Int) > 0:=by omega
  have h2:IntKind.wrap .i64 (((n+1:Nat):Int) - 1)=n:=by rw[iQ]<;>omega
  simp only[gY,aa,aA,an h1,pH,h2];rw[NV.av,uh (by omega) (by omega)];simp only[aa,gy,dg,iM,aA,cH];rw[lV]
  by_cases h:x.ds.getD n 0=0
  ·rw[an (by omega),an h];exact ih
  ·rw[aj (by omega),aj h]
theorem qgS (x:NV) (m:af) (hl:x.ds.length < 2 ^ 62):AC ae 164 [x.av] m=some (NV.av ⟨x.z,.no,tr x.ds⟩,m):=by
 rw[qgR];simp only[NV.av,pn,aa,cg];have:=qfU x m (Kt (aE ae.P f164.results.toList)) x.ds.length (aR _) hl;rw[NV.av] at this;rw[this,qcE,ZG (by omega) (by have:=Ff x.ds x.ds.length;omega)];simp[tr]
theorem rp (x:NV) (hl:x.ds.length < 2 ^ 62):AP ae 164 [x.av]=some (NV.av ⟨x.z,.no,tr x.ds⟩):=
 iw (qgS x [] hl) (cD _ _) (by simp[pU])
theorem qfS (x y:NV) (m:af) (K:KT) (hl:x.ds.length < 2 ^ 62):∀ n:Nat,n<=x.ds.length->n<=y.ds.length ->
  GG x.av y.av (.int .i64 ((n:Int) - 1)) m K=if mL x.ds y.ds n=0 then K (.exit 1) (Le m) else K .ret (Hy (.int .i64 (mL x.ds y.ds n)) m):=by
 intro n
 induction n with
 | zero=>
  intro _ _;rw[Q2];simp[kK,aw,mL]
 | succ n ih=>
  intro hx hy;have ih:=ih (by omega) (by omega);rw[Q2];have h1:((n+1:Nat):Int) - 1=n:=by omega
  have h0:(n:Int)≥0:=by omega
  have h2:IntKind.wrap .i64 ((n:Int) - 1)=(n:Int) - 1:=by rw[iQ]<;>omega
  simp only[h1,kK,aa,aA,an h0];simp only[NV.av] at ih ⊢;rw[uh (by omega) (by omega),uh (by omega) (by omega)];simp only[aa,gy,dg,bc,gY,aA,cH,pH,h2];rw[mL]
  by_cases h:x.ds.getD n 0 < y.ds.getD n 0
  ·rw[an (by omega),an h]
   rfl
  ·rw[aj (by omega),aj h]
   by_cases h':x.ds.getD n 0 > y.ds.getD n 0
   ·rw[an (by omega),an h']
    rfl
   ·rw[aj (by omega),aj h'];exact ih
theorem qgB (x y:NV) (m:af) (hx:x.ds.length < 2 ^ 62) (hy:y.ds.length < 2 ^ 62):AC ae 131 [x.av,y.av] m=some (.int .i64 (uY (tr x.ds) (tr y.ds)),m):=by
 have ha:(tr x.ds).length < 2 ^ 62:=by simp only[tr,jV];omega
 rw[qgA,cG (cD x),rp x.fr hx];simp only[aS,aa,cG (cD y),rp y.fr hy];simp only[NV.av,pn,cg,aa,bc,gY,aA,pH,NV.fr];unfold uY
 by_cases h:(tr x.ds).length < (tr y.ds).length
 ·rw[an (by omega),an h]
 ·rw[aj (by omega),aj h]
  by_cases h':(tr x.ds).length > (tr y.ds).length
  ·rw[an (by omega),an h']
  ·rw[aj (by omega),aj h',iQ (by omega) (by omega)];have:=qfS ⟨x.z,.no,tr x.ds⟩ ⟨y.z,.no,tr y.ds⟩ m (FU (aE ae.P f131.results.toList)) ha (tr x.ds).length (aR _) (by simp only;omega);simp only[NV.av] at this;rw[this,qb4,qb3]
   split
   ·rename_i h0;rw[h0]
   ·rfl
theorem qf7 (x y:NV) (hx:x.ds.length < 2 ^ 62) (hy:y.ds.length < 2 ^ 62):AP ae 131 [x.av,y.av]=some (.int .i64 (uY (tr x.ds) (tr y.ds))):=
 iw (qgB x y [] hx hy) (fW _ _ _) (by simp[jd])
theorem Q0 (x y:NV) (m:af) (K:KT) (hl:x.ds.length < 2 ^ 40) (hy:y.ds.length<=x.ds.length) (dx:Dg x.ds) (dy:Dg y.ds):∀ j i:Nat,i+j=x.ds.length ->
  Ao y.av (.lst none false (.tok m.length 161) ((cF x.ds y.ds i).1.map dg)) (.int .u64 (cF x.ds y.ds i).2) x.av (.int .i64 x.ds.length) (.int .i64 i) (n7 m i) K
   = K (.exit 0) (Hn (.lst none false (.tok m.length 161) ((cF x.ds y.ds x.ds.length).1.map dg)) (.int .u64 (cF x.ds y.ds x.ds.length).2) (n7 m x.ds.length)):=by
 intro j
 induction j with
 | zero=>
  intro i hi;have:i=x.ds.length:=by omega
  subst this;rw[Q1];simp[bc,aw]
 | succ j ih=>
  intro i hi;have ih:=ih (i+1) (by omega);have hc:=yp dx dy i;have h1:=dx i;have h2:=dy i;rw[Q1];have fR:((i:Nat):Int) < (x.ds.length:Int):=by omega
  have hw:IntKind.wrap .i64 ((i:Int)+1)=((i+1:Nat):Int):=by rw[iQ]<;>omega
  simp only[bc,aa,aA,an fR];simp only[NV.av] at ih ⊢
  have nw:aF none (.lst none x.z x.o (x.ds.map dg)) (.int .i64 i)=some (.vptr [dg (x.ds.getD i 0)]):=by
   rw[uh (by omega) (by omega)];simp
  rw[nw];have e1:IntKind.wrap .u64 ((x.ds.getD i 0:Nat):Int)=(x.ds.getD i 0:Nat):=by rw[ju]<;>omega
  have e2:IntKind.wrap .u64 (((cF x.ds y.ds i).2:Int)+(x.ds.getD i 0:Nat))=(((cF x.ds y.ds i).2+x.ds.getD i 0:Nat):Int):=by rw[ju]<;>omega
  simp only[aa,gy,dg,lZ,e1,lD,e2,pn,cg,bc,aA,hw]
  have fin:∀ s:Nat,s=(cF x.ds y.ds i).2+x.ds.getD i 0+y.ds.getD i 0->(ck none false 161 none 4 (n7 m i) (.lst none false (.tok m.length 161) ((cF x.ds y.ds i).1.map dg)) (.lst none false .full [.int .u32 (IntKind.wrap .u32 s)]))=some (.lst none false (.tok m.length 161) ((cF x.ds y.ds (i+1)).1.map dg),n7 m (i+1)):=by
   intro s hs;have hlen:((cF x.ds y.ds i).1.map dg).length=i:=by rw[cg,wA]
   have:=DG (e:=161) (b:=4) (m:=m) (es:=(cF x.ds y.ds i).1.map dg) (z:=false) (o:=.full) (y:=.int .u32 (IntKind.wrap .u32 s)) (by rw[hlen];simp only[gS];omega);rw[hlen] at this;rw[this];congr 3;simp only[cF,lA,gg,ri,dg,xP,<- hs]
   rfl
  by_cases h:(i:Int) < (y.ds.length:Int)
  ·rw[an h]
   have qmp:aF none (.lst none y.z y.o (y.ds.map dg)) (.int .i64 i)=some (.vptr [dg (y.ds.getD i 0)]):=by
    rw[uh (by omega) (by omega)];simp
   have e3:IntKind.wrap .u64 ((y.ds.getD i 0:Nat):Int)=(y.ds.getD i 0:Nat):=by rw[ju]<;>omega
   have e4:IntKind.wrap .u64 ((((cF x.ds y.ds i).2+x.ds.getD i 0:Nat):Int)+(y.ds.getD i 0:Nat))=(((cF x.ds y.ds i).2+x.ds.getD i 0+y.ds.getD i 0:Nat):Int):=by rw[ju]<;>omega
   have V7:=qmp;simp only[dg] at V7;rw[V7];simp only[aa,gy,lZ,e3,lD,e4,ry];have f:=fin _ rfl;rw[f];simp only[aa,DI _ _ _ (rY _),hw];exact ih
  ·rw[aj h]
   have h0:y.ds.getD i 0=0:=by
    rw[aT,ow (by omega)];rfl
   simp only[aa,lZ,ry];have f:=fin ((cF x.ds y.ds i).2+x.ds.getD i 0) (by omega);rw[f];simp only[aa,DI _ _ _ (rY _),lD,hw];have:(cF x.ds y.ds (i+1)).2=((cF x.ds y.ds i).2+x.ds.getD i 0) / 4294967296:=by simp only[cF,h0,ku]
   rw[this] at ih;exact ih
theorem QC (a b:List Nat) (m:af) (hl:a.length < 2 ^ 40) (da:Dg a) (db:Dg b):Ak (aE ae.P f130.results.toList) (.exit 0) (Hn (.lst none false (.tok m.length 161) ((cF a b a.length).1.map dg)) (.int .u64 (cF a b a.length).2) (n7 m a.length))=some (NV.av ⟨false,.no,DD a b⟩,n7 m (a.length+1)):=by
 have hc:=yp da db a.length;have hlen:((cF a b a.length).1.map dg).length=a.length:=by rw[cg,wA]
 rw[qb0];simp only[lZ,aa,ry,z8 (rY _) (by omega:(((cF a b a.length).2:Nat):Int) < 4294967296)];have:=DG (e:=161) (b:=4) (m:=m) (es:=(cF a b a.length).1.map dg) (z:=false) (o:=.full) (y:=.int .u32 (cF a b a.length).2) (by rw[hlen];simp only[gS];omega);rw[hlen] at this;rw[this];simp only[aa];have e:(AV.lst none false (.tok m.length 161) ((cF a b a.length).1.map dg++[.int .u32 (cF a b a.length).2]))=NV.av ⟨false,.tok m.length 161,(cF a b a.length).1++[(cF a b a.length).2]⟩:=by simp[NV.av,dg]
 rw[e,cG (cD _),rp _ (by simp only[NV.fr,aI,wA,aL,aQ];omega)]
 rfl
theorem qgz (x y:NV) (m:af) (hx:x.ds.length < 2 ^ 40) (hy:y.ds.length < 2 ^ 40) (dx:Dg x.ds) (dy:Dg y.ds):∃ m',AC ae 130 [x.av,y.av] m=some (NV.av ⟨false,.no,AT (tr x.ds) (tr y.ds)⟩,m'):=by
 have iu:=Cg x.ds;have zf:=Cg y.ds;have dx':=th dx;have dy':=th dy;rw[qgy,cG (cD x),rp x.fr (by simp only[NV.fr];omega)];simp only[aS,aa,cG (cD y),rp y.fr (by simp only[NV.fr];omega)];simp only[NV.av,pn,cg,aa,bc,aA,lD,NV.fr];unfold AT
 by_cases h:(tr x.ds).length < (tr y.ds).length
 ·rw[an (by omega),an h,iQ (by omega) (by omega),XM (by omega) (by omega) (by omega)];simp only[aa];have:=Q0 ⟨y.z,.no,tr y.ds⟩ ⟨x.z,.no,tr x.ds⟩ m (Ak (aE ae.P f130.results.toList)) (by simp only;omega) (by simp only;omega) dy' dx' (tr y.ds).length 0 (by simp);simp only[NV.av,cF,ri] at this;refine ⟨_,this.trans (QC (tr y.ds) (tr x.ds) m (by omega) dy' dx')⟩
 ·rw[aj (by omega),aj h,iQ (by omega) (by omega),XM (by omega) (by omega) (by omega)];simp only[aa];have:=Q0 ⟨x.z,.no,tr x.ds⟩ ⟨y.z,.no,tr y.ds⟩ m (Ak (aE ae.P f130.results.toList)) (by simp only;omega) (by simp only;omega) dx' dy' (tr x.ds).length 0 (by simp);simp only[NV.av,cF,ri] at this;refine ⟨_,this.trans (QC (tr x.ds) (tr y.ds) m (by omega) dx' dy')⟩
theorem qf6 (x y:NV) (hx:x.ds.length < 2 ^ 40) (hy:y.ds.length < 2 ^ 40) (dx:Dg x.ds) (dy:Dg y.ds):AP ae 130 [x.av,y.av]=some (NV.av ⟨false,.no,AT (tr x.ds) (tr y.ds)⟩):=by
 obtain ⟨m',h⟩:=qgz x y [] hx hy dx dy;exact iw h (cD _ _) (by simp[pU])
theorem qfR (y:NV) (m:af) (K:KT) (x i n:Nat) (s:List Nat×Nat) (v21 v22 v23:AV) (hl:n < 2 ^ 42) (hn:s.1.length=n) (hi:i+y.ds.length<=n) (dy:Dg y.ds) (hx:x < 4294967296) (hs:Dg s.1) (hc:s.2 < 4294967296):∀ j k:Nat,k+j=y.ds.length ->
  GD y.av (.arr m.length 0 n none) (.int .i64 i) (dg x) (.int .u64 (gX y.ds x i k s).2) v21 v22 v23 y.av (.int .i64 y.ds.length) (.int .i64 k) (nF m (gX y.ds x i k s).1) K
   = K (.exit 2) (Ld y.av (.arr m.length 0 n none) (.int .i64 i) (.int .u64 (gX y.ds x i y.ds.length s).2) v21 v22 v23 (nF m (gX y.ds x i y.ds.length s).1)):=by
 intro j
 induction j with
 | zero=>
  intro k hk;have:k=y.ds.length:=by omega
  subst this;rw[QY];simp[bc,aw]
 | succ j ih=>
  intro k hk;have ih:=ih (k+1) (by omega);obtain ⟨h1,h2⟩:=BO (i:=i) dy hx hs hc k;have h3:=h1 (i+k);have h4:=dy k;have h5:x * y.ds.getD k 0<=4294967295 * 4294967295:=sj (by omega) (by omega);have hlen:=xn y.ds x i s k;rw[QY];have bS:((k:Nat):Int) < (y.ds.length:Int):=by omega
  have hw:IntKind.wrap .i64 ((k:Int)+1)=((k+1:Nat):Int):=by rw[iQ]<;>omega
  have I1:IntKind.wrap .i64 ((i:Int)+k)=((i+k:Nat):Int):=by rw[iQ]<;>omega
  simp only[bc,aa,aA,an bS]
  have nw:aF none y.av (.int .i64 k)=some (.vptr [dg (y.ds.getD k 0)]):=by
   rw[NV.av,uh (by omega) (by omega)];simp
  rw[nw];simp only[aa,gy,lD,I1];rw[ga (by omega),aa,qnP (by omega)];have e1:IntKind.wrap .u64 (((gX y.ds x i k s).1.getD (i+k) 0:Nat):Int)=((gX y.ds x i k s).1.getD (i+k) 0:Nat):=by rw[ju]<;>omega
  have e2:IntKind.wrap .u64 ((x:Nat):Int)=x:=by rw[ju]<;>omega
  have e3:IntKind.wrap .u64 ((y.ds.getD k 0:Nat):Int)=(y.ds.getD k 0:Nat):=by rw[ju]<;>omega
  have e4:IntKind.wrap .u64 ((x:Int) * (y.ds.getD k 0:Nat))=((x * y.ds.getD k 0:Nat):Int):=by rw[<- rX,ju]<;>omega
  have e5:IntKind.wrap .u64 ((((gX y.ds x i k s).1.getD (i+k) 0:Nat):Int)+(x * y.ds.getD k 0:Nat))=(((gX y.ds x i k s).1.getD (i+k) 0+x * y.ds.getD k 0:Nat):Int):=by rw[ju]<;>omega
  have e6:IntKind.wrap .u64 (((gX y.ds x i k s).2:Int)+((gX y.ds x i k s).1.getD (i+k) 0+x * y.ds.getD k 0:Nat))=(((gX y.ds x i k s).2+((gX y.ds x i k s).1.getD (i+k) 0+x * y.ds.getD k 0):Nat):Int):=by rw[ju]<;>omega
  have e7:IntKind.wrap .u32 (((gX y.ds x i k s).2+((gX y.ds x i k s).1.getD (i+k) 0+x * y.ds.getD k 0):Nat):Int)=((((gX y.ds x i k s).2+((gX y.ds x i k s).1.getD (i+k) 0+x * y.ds.getD k 0)) % 4294967296:Nat):Int):=by rw[xP];rfl
  simp only[dg,aa,lZ,e1,e2,e3,wC,e4,e5,e6,e7,lD,I1];rw[Cb (by omega)];simp only[aa,DI _ _ _ (rY _),hw];exact ih
theorem qfQ (x y:NV) (m:af) (K:KT) (hx:x.ds.length < 2 ^ 40) (hy:y.ds.length < 2 ^ 40) (dx:Dg x.ds) (dy:Dg y.ds):∀ j i:Nat,i+j=x.ds.length ->
  GC y.av (.arr m.length 0 (x.ds.length+y.ds.length) none) x.av (.int .i64 x.ds.length) (.int .i64 i) (nF m (iO x.ds y.ds i)) K
   = K (.exit 0) (Lc (.arr m.length 0 (x.ds.length+y.ds.length) none) (nF m (iO x.ds y.ds x.ds.length))):=by
 intro j
 induction j with
 | zero=>
  intro i hi;have:i=x.ds.length:=by omega
  subst this;rw[QX];simp[bc,aw]
 | succ j ih=>
  intro i hi;have ih:=ih (i+1) (by omega);rw[QX];have fR:((i:Nat):Int) < (x.ds.length:Int):=by omega
  have hw:IntKind.wrap .i64 ((i:Int)+1)=((i+1:Nat):Int):=by rw[iQ]<;>omega
  have I1:IntKind.wrap .i64 ((i:Int)+y.ds.length)=((i+y.ds.length:Nat):Int):=by rw[iQ]<;>omega
  simp only[bc,aa,aA,an fR]
  have nw:aF none x.av (.int .i64 i)=some (.vptr [dg (x.ds.getD i 0)]):=by
   rw[NV.av,uh (by omega) (by omega)];simp
  have hlen:aK false y.av=some (.int .i64 y.ds.length):=by simp[NV.av,aK]
  rw[nw];simp only[aa,gy,hlen];have hb:=qfR y m (Kn K) (x.ds.getD i 0) i (x.ds.length+y.ds.length) (iO x.ds y.ds i,0) x.av (.int .i64 x.ds.length) (.int .i64 i) (by omega) (xm ..) (by omega) dy (dx i) (zx dx dy i) (by simp) y.ds.length 0 (by omega);simp only[gX] at hb;refine hb.trans ?_;obtain ⟨h1,h2⟩:=BO (i:=i) (s:=(iO x.ds y.ds i,0)) dy (dx i) (zx dx dy i) (by simp) y.ds.length;have hl:=xn y.ds (x.ds.getD i 0) i (iO x.ds y.ds i,0) y.ds.length;simp only[xm] at hl;rw[qbT];simp only[hlen,aa,lD,I1,lZ,z8 (rY _) (by omega:(((gX y.ds (x.ds.getD i 0) i y.ds.length (iO x.ds y.ds i,0)).2:Nat):Int) < 4294967296)];rw[ga (by omega),aa,Cb (by omega)];simp only[aa,hw];exact ih
theorem qgv (x y:NV) (m:af) (hx:x.ds.length < 2 ^ 40) (hy:y.ds.length < 2 ^ 40) (dx:Dg x.ds) (dy:Dg y.ds):AC ae 127 [x.av,y.av] m=some (NV.av ⟨false,.no,ET (tr x.ds) (tr y.ds)⟩,m++[none]):=by
 have iu:=Cg x.ds;have zf:=Cg y.ds;rw[qgu,cG (cD x),rp x.fr (by simp only[NV.fr];omega)];simp only[aS,aa,cG (cD y),rp y.fr (by simp only[NV.fr];omega)];have hl:∀ x:NV,aK false x.av=some (.int .i64 x.ds.length):=fun x=>by simp[NV.av,aK]
 have hw:IntKind.wrap .i64 (((tr x.ds).length:Int)+(tr y.ds).length)=(((tr x.ds).length+(tr y.ds).length:Nat):Int):=by rw[iQ]<;>omega
 simp only[hl,aa,lD,NV.fr,hw];rw[XL (by omega) (by omega)];simp only[aa];have:=qfQ ⟨x.z,.no,tr x.ds⟩ ⟨y.z,.no,tr y.ds⟩ m (Km (aE ae.P f127.results.toList)) (by simp only;omega) (by simp only;omega) (th dx) (th dy) (tr x.ds).length 0 (by simp);refine this.trans ?_;rw[qbO];have hlen:=xm (tr x.ds) (tr y.ds) (tr x.ds).length;have hp:=qoT (cp:=AP ae) (m:=m) (g:=164) (ds:=iO (tr x.ds) (tr y.ds) (tr x.ds).length);rw[hlen] at hp;rw[hp];have:=rp ⟨false,.no,iO (tr x.ds) (tr y.ds) (tr x.ds).length⟩ (by simp only[hlen];omega);simp only[NV.av] at this;rw[this]
 rfl
theorem qf5 (x y:NV) (hx:x.ds.length < 2 ^ 40) (hy:y.ds.length < 2 ^ 40) (dx:Dg x.ds) (dy:Dg y.ds):AP ae 127 [x.av,y.av]=some (NV.av ⟨false,.no,ET (tr x.ds) (tr y.ds)⟩):=
 iw (qgv x y [] hx hy dx dy) (cD _ _) (by simp[pU])
def NV.ok (x:NV):Prop:=x.z=true->x.ds=[]
def tN (x:NV):NV:=⟨x.z,if x.ds=[] then .full else .no,x.ds⟩
theorem Sn (x:NV) (hz:x.ok) (hx:x.ds.length < 2 ^ 40):AP ae 163 [x.av]=some (tN x).av:=by
 have h0:ag .sl .eql x.av aq=some (.bool x.z):=rfl;obtain ⟨z,o,ds⟩:=x
 cases z with
 | true=>
  have:ds=[]:=hz rfl;subst this;refine iw (v:=NV.av ⟨true,.full,[]⟩) (m:=[]) ?_ (cD _ _) (by simp[pU]);rw[L6,h0]
  rfl
 | false=>
  cases ds with
  | nil=>
   refine iw (v:=NV.av ⟨false,.full,[]⟩) (m:=[]) ?_ (cD _ _) (by simp[pU]);rw[L6,h0]
   rfl
  | cons d ds=>
   refine iw (v:=NV.av ⟨false,.tok 0 161,d::ds⟩) (m:=[some (.tok (d::ds).length 1)]) ?_ (cD _ _) (by simp[pU]);rw[L6,h0];have hl:(ds.length+1) * 4<=140737488355328:=by simp only[aL] at hx;omega
   simp only[aa,aw,dH,List.all_nil,bz,ri,NV.av,gg,ck,aQ,aL,cg,br,gS,hl,true_or,j6,mo,az,bQ,Sh.size]
theorem qk1 (x:NV):(tN x).fr=tN x:=by
 unfold tN NV.fr;simp only[];split<;>rfl
theorem qlK (x:NV):Fz (tN x).av (tN x).av:=by
 have:=cD (tN x)
 rwa [qk1] at this
def Ph (n:Nat):List Nat:=tr [n % 4294967296,n / 4294967296]
theorem qf4 (n:Nat) (hn:n < 18446744073709551616):AP ae 123 [.int .u64 n]=some (tN ⟨false,.no,Ph n⟩).av:=by
 have e1:IntKind.wrap .u32 (n:Int)=((n % 4294967296:Nat):Int):=by rw[xP];rfl
 have e2:IntKind.wrap .u32 ((n:Int) / 4294967296)=((n / 4294967296:Nat):Int):=by rw[z8]<;>omega
 have hb:dH none [.int .u32 ((n % 4294967296:Nat):Int),.int .u32 ((n / 4294967296:Nat):Int)]=some (NV.av ⟨false,.full,[n % 4294967296,n / 4294967296]⟩):=rfl;have hl:(tr [n % 4294967296,n / 4294967296]).length<=2:=Cg _;refine iw (m:=[]) ?_ (qlK _ _) (by simp[pU]);rw[qgs];simp only[lZ,aa,e1,DI _ _ _ (rY _),e2,hb];rw[cG (cD _),rp _ (by simp[NV.fr])];simp only[aS,aa];rw[cG (cD _),Sn _ (by simp[NV.ok,NV.fr]) (by simp only[NV.fr];omega)]
 rfl
def B5 (a:List Nat):Bool:=decide (a.length=0) || decide (a.getD (a.length - 1) 0≠0)
theorem qf8 (x:NV) (hx:x.ds.length < 2 ^ 40):AP ae 181 [x.av]=some (.bool (B5 x.ds)):=by
 refine iw (m:=[]) ?_ (qG _ _) (by simp[jd]);have hl:aK false x.av=some (.int .i64 x.ds.length):=by simp[NV.av,aK]
 rw[qgY];simp only[hl,aa,iM,aA]
 by_cases h:x.ds.length=0
 ·rw[an (by omega)];simp[B5,h]
 ·rw[aj (by omega)];have hw:IntKind.wrap .i64 ((x.ds.length:Int) - 1)=((x.ds.length - 1:Nat):Int):=by rw[iQ]<;>omega
  simp only[pH,aa,hw]
  have nw:aF none x.av (.int .i64 ((x.ds.length - 1:Nat):Int))=some (.vptr [dg (x.ds.getD (x.ds.length - 1) 0)]):=by
   rw[NV.av,uh (by omega) (by omega)];simp
  rw[nw];simp only[aa,gy,dg,gZ];congr 2;simp only[B5,h,decide_false,Ah,AV.bool.injEq,jL];omega
def td (a:List Nat):AV:=match a with
 | []=>.tup [.int .u64 0,.bool true]
 | [d]=>.tup [.int .u64 d,.bool true]
 | [d,e]=>.tup [.int .u64 (d+e * 4294967296:Nat),.bool true]
 | _=>.tup [.int .u64 0,.bool false]
theorem Im (a:List Nat):Fz (td a) (td a)/\jd (td a)=true:=by
 unfold td;split<;>exact ⟨fun _=>rfl,rfl⟩
theorem qf9 (x:NV) (hx:x.ds.length < 2 ^ 40) (dx:Dg x.ds):AP ae 182 [x.av]=some (td (tr x.ds)):=by
 refine iw (m:=[]) ?_ ((Im _).1 _) (by simp[(Im _).2]);have hl:∀ x:NV,aK false x.av=some (.int .i64 x.ds.length):=fun x=>by simp[NV.av,aK]
 rw[qgZ,cG (cD x),rp x.fr (by simp only[NV.fr];omega)];have dt:=th dx;simp only[aS,aa,hl,iM,aA,NV.fr];generalize tr x.ds=a at dt
 match a,dt with
 | [],_=>rfl
 | [d],dt=>
  have h0:=dt 0;simp only[pE] at h0;rw[aj (by simp),an (by simp)];simp only[NV.av];rw[show aF none (.lst none x.z .no ([d].map dg)) (.int .i64 0)=some (.vptr [dg d]) from rfl];simp only[aa,gy,dg,lZ,ju (rY d) (by omega)]
  rfl
 | [d,e],dt=>
  have h0:=dt 0;have h1:=dt 1;simp only[pE,yd] at h0 h1;rw[aj (by simp),aj (by simp),an (by simp)];simp only[NV.av];rw[show aF none (.lst none x.z .no ([d,e].map dg)) (.int .i64 0)=some (.vptr [dg d]) from rfl,show aF none (.lst none x.z .no ([d,e].map dg)) (.int .i64 1)=some (.vptr [dg e]) from rfl];simp only[aa,gy,dg,lZ,ju (rY d) (by omega),ju (rY e) (by omega),Ug _ _ e h1,qkE _ d e h0 h1]
  rfl
 | d::e::f::l,_=>
  rw[aj (by simp only[aL];omega),aj (by simp only[aL];omega),aj (by simp only[aL];omega)]
  rfl
theorem qfT (x y:NV) (m:af) (K:KT) (hl:x.ds.length < 2 ^ 40) (dx:Dg x.ds) (dy:Dg y.ds):∀ j i:Nat,i+j=x.ds.length ->
  yb y.av (.arr m.length 0 x.ds.length none) (.int .u64 (gI x.ds y.ds i).2) x.av (.int .i64 x.ds.length) (.int .i64 i) (nF m (gI x.ds y.ds i).1) K
   = K (.exit 0) (Lf (.arr m.length 0 x.ds.length none) (nF m (gI x.ds y.ds x.ds.length).1)):=by
 intro j
 induction j with
 | zero=>
  intro i hi;have:i=x.ds.length:=by omega
  subst this;rw[Q3];simp[bc,aw]
 | succ j ih=>
  intro i hi;have ih:=ih (i+1) (by omega);have hc:=JX x.ds y.ds i;have hlen:=Ce x.ds y.ds i;have h1:=dx i;have h2:=dy i;rw[Q3];have fR:((i:Nat):Int) < (x.ds.length:Int):=by omega
  have hw:IntKind.wrap .i64 ((i:Int)+1)=((i+1:Nat):Int):=by rw[iQ]<;>omega
  have e1:IntKind.wrap .u64 ((x.ds.getD i 0:Nat):Int)=(x.ds.getD i 0:Nat):=by rw[ju]<;>omega
  have e2:IntKind.wrap .u64 ((y.ds.getD i 0:Nat):Int)=(y.ds.getD i 0:Nat):=by rw[ju]<;>omega
  have e3:IntKind.wrap .u64 (((gI x.ds y.ds i).2:Int)+(y.ds.getD i 0:Nat))=(((gI x.ds y.ds i).2+y.ds.getD i 0:Nat):Int):=by rw[ju]<;>omega
  have s1:ag .other .shl (.int .u64 1) (.int .u64 32)=some (.int .u64 4294967296):=rfl;have s0:ag .other .shl (.int .u64 0) (.int .u64 32)=some (.int .u64 0):=rfl;simp only[bc,aa,aA,an fR,mV (by omega:i < x.ds.length),gy,iJ]
  have big:∀ t:Nat,t=(gI x.ds y.ds i).2+y.ds.getD i 0->x.ds.getD i 0 < t->
    IntKind.wrap .u32 (IntKind.wrap .u64 (IntKind.wrap .u64 ((x.ds.getD i 0:Nat)+4294967296:Int) - (t:Nat)))=((x.ds.getD i 0+4294967296 - t:Nat):Int)/\gI x.ds y.ds (i+1)=((gI x.ds y.ds i).1.set i (x.ds.getD i 0+4294967296 - t),1):=by
   intro t ht hlt;refine ⟨?_,by simp only[gI,<- ht,an hlt]⟩;rw[ju (x:=((x.ds.getD i 0:Nat):Int)+4294967296) (by omega) (by omega),ju (by omega) (by omega),z8 (by omega) (by omega)];omega
  have small:∀ t:Nat,t=(gI x.ds y.ds i).2+y.ds.getD i 0->¬ x.ds.getD i 0 < t->
    IntKind.wrap .u32 (IntKind.wrap .u64 (IntKind.wrap .u64 ((x.ds.getD i 0:Nat)+0:Int) - (t:Nat)))=((x.ds.getD i 0 - t:Nat):Int)/\gI x.ds y.ds (i+1)=((gI x.ds y.ds i).1.set i (x.ds.getD i 0 - t),0):=by
   intro t ht hlt;refine ⟨?_,by simp only[gI,<- ht,aj hlt]⟩;rw[ju (x:=((x.ds.getD i 0:Nat):Int)+0) (by omega) (by omega),ju (by omega) (by omega),z8 (by omega) (by omega)];omega
  by_cases h:(i:Int) < (y.ds.length:Int)
  ·rw[an h,mV (by omega:i < y.ds.length)];simp only[aa,gy,dg,lZ,e1,e2,e3,lD,bc,aA]
   by_cases h3:x.ds.getD i 0 < (gI x.ds y.ds i).2+y.ds.getD i 0
   ·obtain ⟨b1,b2⟩:=big _ rfl h3;rw[an (by omega),s1];simp only[aa,lD,pH,lZ,b1,hw];rw[ga (by omega),aa,Cb (by omega)];rw[b2] at ih;exact ih
   ·obtain ⟨b1,b2⟩:=small _ rfl h3;rw[aj (by omega),s0];simp only[aa,lD,pH,lZ,b1,hw];rw[ga (by omega),aa,Cb (by omega)];rw[b2] at ih;exact ih
  ·rw[aj h];have h0:=yI h;simp only[aa,gy,dg,lZ,e1,bc,aA]
   by_cases h3:x.ds.getD i 0 < (gI x.ds y.ds i).2
   ·obtain ⟨b1,b2⟩:=big (gI x.ds y.ds i).2 (by omega) h3;rw[an (by omega),s1];simp only[aa,lD,pH,lZ,b1,hw];rw[ga (by omega),aa,Cb (by omega)];rw[b2] at ih;exact ih
   ·obtain ⟨b1,b2⟩:=small (gI x.ds y.ds i).2 (by omega) h3;rw[aj (by omega),s0];simp only[aa,lD,pH,lZ,b1,hw];rw[ga (by omega),aa,Cb (by omega)];rw[b2] at ih;exact ih
end Go.Ab
namespace Go.Ab
def iC (a:List Nat) (d:Nat):Nat->List Nat×Nat
 | 0=>(List.replicate a.length 0,0)
 | k+1=>((iC a d k).1.set (a.length - 1 - k) (((iC a d k).2 * 4294967296+a.getD (a.length - 1 - k) 0) / d),((iC a d k).2 * 4294967296+a.getD (a.length - 1 - k) 0) % d)
theorem xF (a:List Nat) (d:Nat):∀ k,(iC a d k).1.length=a.length
 | 0=>by simp[iC]
 | k+1=>by simp[iC,xF a d k]
theorem JM {a:List Nat} {d:Nat} (hd:0 < d):∀ k,(iC a d k).2 < d
 | 0=>hd
 | k+1=>kA _ hd
theorem PL {a:List Nat} {d:Nat} (ha:Dg a) (hd:0 < d) (k i:Nat):((iC a d k).2 * 4294967296+a.getD i 0) / d < 4294967296:=by
 have h1:=JM (a:=a) hd k;have h2:=ha i;rw[uO hd];have:((iC a d k).2+1) * 4294967296<=d * 4294967296:=iS _ h1;rw[cO 4294967296 d];omega
theorem Ca {a:List Nat} {d:Nat} (ha:Dg a) (hd:0 < d):∀ k,Dg (iC a d k).1
 | 0=>yC _
 | k+1=>(Ca ha hd k).set _ _ (PL ha hd k _)
theorem ZB (a:List Nat) (d j:Nat):∀ k,j+k < a.length->(iC a d k).1.getD j 0=0
 | 0,_=>Io _ _
 | k+1,h=>by
  rw[iC];simp only[];rw[vd (by omega)];exact ZB a d j k (by omega)
theorem ZC {a:List Nat} {d:Nat} (hd:0 < d):∀ k,k<=a.length->val (iC a d k).1 * d+4294967296 ^ (a.length - k) * (iC a d k).2+vs a (a.length - k)=val a
 | 0,_=>by simp[iC,J5,jo]
 | k+1,h=>by
  have ih:=ZC (a:=a) hd k (by omega);obtain ⟨i,hi⟩:∃ i,i=a.length - 1 - k:=⟨_,rfl⟩;have e1:a.length - k=i+1:=by omega
  have e2:a.length - (k+1)=i:=by omega
  have hk:=ZB a d i k (by omega);have hl:=xF a d k;rw[e1,jT,jW] at ih;rw[e2,iC,<- hi];generalize iC a d k=t at *;simp only[];have h1:=Fq t.1 i ((t.2 * 4294967296+a.getD i 0) / d) (by omega);rw[hk,oD,ku] at h1;rw[h1,im,fF,mH (val t.1 * d),<- gB,cO (_ / _) d,wj];rw[<- ih,gB];have:4294967296 ^ i * (t.2 * 4294967296)=4294967296 ^ i * 4294967296 * t.2:=by rw[cO t.2,fF]
  omega
def JN (a:List Nat) (d:Nat):List Nat:=tr (iC a d a.length).1
theorem ZD {a:List Nat} {d:Nat} (ha:Dg a) (hd:0 < d):JN a d=aD (val a / d)/\(iC a d a.length).2=val a % d:=by
 have h:=ZC (a:=a) hd a.length (aR _);have h2:=JM (a:=a) hd a.length;simp only[oY,Nat.pow_zero,rl,rN,ku] at h;rw[JN,lp (Ca ha hd _)]
 have e:val a / d=val (iC a d a.length).1/\val a % d=(iC a d a.length).2:=by
  rw[<- h]
  constructor
  ·rw[cO,Nat.mul_add_div hd,Nat.div_eq_of_lt h2];rfl
  ·rw[cO,Nat.mul_add_mod,lB h2]
 exact ⟨by rw[e.1],e.2.symm⟩
def wn (u:List Nat) (j:Nat):Nat->Nat
 | 0=>0
 | i+1=>wn u j i+4294967296 ^ i * u.getD (j+i) 0
theorem Fv (u:List Nat):∀ i,wn u 0 i=vs u i
 | 0=>rfl
 | i+1=>by rw[wn,Fv u i,jT,br]
theorem zZ {u:List Nat} (h:Dg u) (j:Nat):∀ i,wn u j i < 4294967296 ^ i
 | 0=>by simp[wn]
 | i+1=>by
  have ih:=zZ h j i;have h1:=h (j+i);rw[wn,jW];have:4294967296 ^ i * (u.getD (j+i) 0+1)<=4294967296 ^ i * 4294967296:=kJ _ h1;rw[gB] at this;omega
theorem qao {u w:List Nat} {j:Nat}:∀ i,(∀ k,k < i->u.getD (j+k) 0=w.getD (j+k) 0)->wn u j i=wn w j i
 | 0,_=>rfl
 | i+1,h=>by rw[wn,wn,qao i (fun k hk=>h k (by omega)),h i (by omega)]
theorem uD {u:List Nat} {j i p x:Nat} (h:p < j\/j+i<=p):wn (u.set p x) j i=wn u j i:=by
 apply qao;intro k hk;exact vd (by omega)
theorem qap (u:List Nat) (j i:Nat):∀ k,wn u j (i+k)=wn u j i+4294967296 ^ i * wn u (j+i) k
 | 0=>by simp[wn]
 | k+1=>by
  rw[<- mH,wn,qap u j i k,wn,gB,rm,fF,mH j,mH]
theorem Fu (u:List Nat) (j i:Nat):wn u j (i+1)=u.getD j 0+4294967296 * wn u (j+1) i:=by
 rw[si i 1,qap u j 1 i];simp[wn]
theorem Qe {u:List Nat} {j:Nat}:∀ i,(∀ k,k < i->u.getD (j+k) 0=0)->wn u j i=0
 | 0,_=>rfl
 | i+1,h=>by rw[wn,Qe i (fun k hk=>h k (by omega)),h i (by omega)];simp
def jF (a:List Nat) (s:Nat):Nat->List Nat
 | 0=>List.replicate (a.length+1) 0
 | i+1=>((jF a s i).set i ((jF a s i).getD i 0+a.getD i 0 * 2 ^ s % 4294967296)).set (i+1) (a.getD i 0 * 2 ^ s / 4294967296)
theorem zP (a:List Nat) (s:Nat):∀ i,(jF a s i).length=a.length+1
 | 0=>by simp[jF]
 | i+1=>by simp[jF,zP a s i]
theorem zJ {s:Nat} (hs:s < 32):2 ^ s * 2 ^ (32 - s)=4294967296:=by
 rw[<- rm,show s+(32 - s)=32 by omega]
theorem NO {x s:Nat} (hx:x < 4294967296):x * 2 ^ s / 4294967296 < 2 ^ s:=by
 rw[uO (by omega)];rw[cO];exact Nat.mul_lt_mul_of_pos_left hx (uQ s)
theorem Xy {x s:Nat} (hs:s < 32):x * 2 ^ s % 4294967296+2 ^ s<=4294967296:=by
 have h:=zJ hs
 have:x * 2 ^ s % 4294967296=x % 2 ^ (32 - s) * 2 ^ s:=by
  rw[<- h,cO (2 ^ s) (2 ^ (32 - s)),Nat.mul_mod_mul_right]
 rw[this];have h2:x % 2 ^ (32 - s) < 2 ^ (32 - s):=kA _ (uQ _);have h3:(x % 2 ^ (32 - s)+1) * 2 ^ s<=2 ^ (32 - s) * 2 ^ s:=iS _ h2;rw[cO (2 ^ (32 - s)),h,im] at h3;omega
theorem PK {a:List Nat} {s:Nat} (ha:Dg a):∀ i,i<=a.length->(jF a s i).getD i 0 < 2 ^ s
 | 0,_=>by rw[jF,Io];exact uQ s
 | i+1,h=>by
  have hl:=zP a s i;rw[jF,rz (by rw[a8];omega)];exact NO (ha i)
theorem PJ {a:List Nat} {s:Nat} (ha:Dg a) (hs:s < 32):∀ i,i<=a.length->Dg (jF a s i)
 | 0,_=>yC _
 | i+1,h=>by
  have h1:=PK (s:=s) ha i (by omega);have h2:=Xy (x:=a.getD i 0) hs;have h3:=NO (x:=a.getD i 0) (s:=s) (ha i);have h4:2 ^ s<=2 ^ 31:=pY (by omega) (by omega);exact ((PJ ha hs i (by omega)).set _ _ (by omega)).set _ _ (by omega)
theorem Zt {a:List Nat} {s:Nat}:∀ i,i<=a.length->wn (jF a s i) 0 (i+1)=2 ^ s * vs a i
 | 0,_=>by rw[jF,Qe];rfl;intro k _;exact Io _ _
 | i+1,h=>by
  have ih:=Zt (a:=a) (s:=s) i (by omega);have hl:=zP a s i;rw[wn,jF,uD (by omega),br,rz (by rw[a8];omega),wn,uD (by omega),br,rz (by omega)];rw[wn,br] at ih;have e:=B1 (4294967296 ^ i) 4294967296 (a.getD i 0 * 2 ^ s);rw[jT,gB (2 ^ s),<- ih,jW,Nat.mul_left_comm (2 ^ s),cO (2 ^ s),gB];omega
theorem Zu {a:List Nat} {s:Nat}:val (jF a s a.length)=2 ^ s * val a:=by
 have h:=Zt (a:=a) (s:=s) a.length (aR _);rw[Fv,jo (by rw[zP];omega),jo (aR _)] at h;exact h
theorem ql1 {g r top v1 v2 u0 lo vlo p q:Nat} (h:g * v1+r=top) (hc:r * 4294967296+u0 < g * v2) (hZ:lo < p)
  (hq:q * ((v1 * 4294967296+v2) * p+vlo)<=(top * 4294967296+u0) * p+lo):q < g:=by
 apply qw;intro hn;have hg:g<=q:=wk hn;have h1:g * ((v1 * 4294967296+v2) * p+vlo)<=q * ((v1 * 4294967296+v2) * p+vlo):=iS _ hg
 have h2:(top * 4294967296+u0+1) * p<=g * (v1 * 4294967296+v2) * p:=by
  apply iS;rw[gB,<- fF,<- h];omega
 rw[gB,<- fF] at h1;rw[im _ 1,rl] at h2;omega
theorem Vq {g r top v1 v2 u0 lo vlo p U V:Nat} (h:g * v1+r=top) (hc:g * v2<=r * 4294967296+u0) (hg:g < 4294967296) (hv:vlo < p) (kF:0 < v1)
  (hU:U=(top * 4294967296+u0) * p+lo) (hV:V=(v1 * 4294967296+v2) * p+vlo):g * V < U+V:=by
 have h2:g * (v1 * 4294967296+v2) * p<=(top * 4294967296+u0) * p:=by
  apply iS;rw[gB,<- fF,<- h];omega
 have h3:g * vlo<=4294967296 * p:=sj (by omega) (by omega)
 have h4:g * vlo < 4294967296 * p:=by
  rcases Nat.eq_zero_or_pos g with h0 | h0
  ·subst h0;rw[yg];omega
  ·exact Nat.mul_lt_mul'' hg hv
 have h5:1 * 4294967296 * p<=v1 * 4294967296 * p:=iS _ (iS _ kF);rw[hV,gB,<- fF,im (v1 * 4294967296)];omega
def jj (v:List Nat) (g j:Nat):Nat->List Nat->List Nat×Nat×Nat
 | 0,u=>(u,0,0)
 | i+1,u=>
  let t:=jj v g j i u
  let c:=t.2.2+g * v.getD i 0
  let y:=c % 4294967296+t.2.1
  if t.1.getD (i+j) 0 < y then (t.1.set (i+j) (t.1.getD (i+j) 0+4294967296 - y),1,c / 4294967296)
  else (t.1.set (i+j) (t.1.getD (i+j) 0 - y),0,c / 4294967296)
theorem ES (v:List Nat) (g j:Nat) (u:List Nat):∀ i,(jj v g j i u).1.length=u.length
 | 0=>rfl
 | i+1=>by
  rw[jj];split<;>simp[ES v g j u i]
theorem ER (v:List Nat) (g j:Nat) (u:List Nat):∀ i,(jj v g j i u).2.1<=1
 | 0=>by simp[jj]
 | i+1=>by
  rw[jj];split<;>simp
theorem Jh {v:List Nat} {g:Nat} (hv:Dg v) (hg:g < 4294967296) (j:Nat) (u:List Nat):∀ i,(jj v g j i u).2.2 < 4294967296
 | 0=>by simp[jj]
 | i+1=>by
  have ih:=Jh hv hg j u i;have h4:=hv i;have h5:g * v.getD i 0<=4294967295 * 4294967295:=sj (by omega) (by omega);rw[jj];split<;>(simp only[];omega)
theorem Ji {v u:List Nat} {g:Nat} (hu:Dg u) (j:Nat):∀ i,Dg (jj v g j i u).1
 | 0=>hu
 | i+1=>by
  have ih:=Ji (v:=v) (g:=g) hu j i;have hb:=ER v g j u i;have h1:=ih (i+j);rw[jj]
  split
  ·exact ih.set _ _ (by omega)
  ·exact ih.set _ _ (by omega)
theorem OZ (v:List Nat) (g j:Nat) (u:List Nat) (k:Nat):∀ i,k < j\/i+j<=k->(jj v g j i u).1.getD k 0=u.getD k 0
 | 0,_=>rfl
 | i+1,h=>by
  have ih:=OZ v g j u k i (by omega);rw[jj];split<;>simp only[]<;>rw[vd (by omega),ih]
theorem O0 {v u:List Nat} {g:Nat} (hu:Dg u) (j:Nat):∀ i,i+j<=u.length->wn (jj v g j i u).1 j i+g * vs v i=wn u j i+4294967296 ^ i * ((jj v g j i u).2.2+(jj v g j i u).2.1)
 | 0,_=>by simp[jj,wn,rN]
 | i+1,h=>by
  have ih:=O0 (v:=v) (g:=g) hu j i (by omega);have hk:=OZ v g j u (i+j) i (by omega);have hl:=ES v g j u i;have hb:=ER v g j u i;have hd:=hu (i+j);rw[wn.eq_2 u,jT,jW,gB,<- fF g,cO g (4294967296 ^ i),fF];rw[jj];generalize jj v g j i u=t at *;obtain ⟨t,b,c⟩:=t;simp only[] at *;rw[hk,si j i];have e:=B1 (4294967296 ^ i) 4294967296 (c+g * v.getD i 0);generalize hc:c+g * v.getD i 0=C at *;rw[<- hc,gB,hc] at e;rw[gB] at ih
  split
  ·rename_i hlt;simp only[];rw[wn,uD (by omega),si j i,rz (by omega)];have e2:=YP (4294967296 ^ i) 4294967296 (u.getD (i+j) 0) (C % 4294967296+b) (by omega);rw[gB _ (C % 4294967296)] at e2;rw[gB _ (C / 4294967296),mI];omega
  ·rename_i hlt;simp only[];rw[wn,uD (by omega),si j i,rz (by omega)];have e2:=Jv (4294967296 ^ i) (u.getD (i+j) 0) (C % 4294967296+b) (by omega);rw[gB _ (C % 4294967296)] at e2;rw[ku];omega
def kB (v:List Nat) (j:Nat):Nat->List Nat->List Nat×Nat
 | 0,u=>(u,0)
 | i+1,u=>
  let t:=kB v j i u
  let c:=t.2+(t.1.getD (i+j) 0+v.getD i 0)
  (t.1.set (i+j) (c % 4294967296),c / 4294967296)
theorem DB (v:List Nat) (j:Nat) (u:List Nat):∀ i,(kB v j i u).1.length=u.length
 | 0=>rfl
 | i+1=>by simp[kB,DB v j u i]
theorem HU {v u:List Nat} (hv:Dg v) (hu:Dg u) (j:Nat):∀ i,Dg (kB v j i u).1/\(kB v j i u).2<=1
 | 0=>⟨hu,by simp[kB]⟩
 | i+1=>by
  obtain ⟨h1,h2⟩:=HU hv hu j i;have h3:=h1 (i+j);have h4:=hv i;refine ⟨h1.set _ _ (kA _ (by omega)),?_⟩;simp only[kB];omega
theorem Mk (v:List Nat) (j:Nat) (u:List Nat) (k:Nat):∀ i,k < j\/i+j<=k->(kB v j i u).1.getD k 0=u.getD k 0
 | 0,_=>rfl
 | i+1,h=>by
  have ih:=Mk v j u k i (by omega);rw[kB];simp only[];rw[vd (by omega),ih]
theorem TP (v:List Nat) (j:Nat) (u:List Nat):∀ i,i+j<=u.length->wn (kB v j i u).1 j i+4294967296 ^ i * (kB v j i u).2=wn u j i+vs v i
 | 0,_=>by simp[kB,wn,rN]
 | i+1,h=>by
  have ih:=TP v j u i (by omega);have hk:=Mk v j u (i+j) i (by omega);have hl:=DB v j u i;rw[wn.eq_2 u,jT,jW];rw[kB];simp only[];generalize kB v j i u=t at *;rw[wn,uD (by omega),si j i,rz (by omega),hk];have e:=B1 (4294967296 ^ i) 4294967296 (t.2+(u.getD (i+j) 0+v.getD i 0));generalize hc:t.2+(u.getD (i+j) 0+v.getD i 0)=C at *;rw[<- hc,gB,gB,hc] at e;omega
def zm (v:List Nat) (n j g:Nat) (u:List Nat):List Nat×Nat:=
 let t:=jj v g j n u
 let y:=t.2.2+t.2.1
 if t.1.getD (j+n) 0 < y then
  let w:=kB v j n (t.1.set (j+n) (t.1.getD (j+n) 0+4294967296 - y))
  (w.1.set (j+n) ((w.1.getD (j+n) 0+w.2) % 4294967296),g - 1)
 else (t.1.set (j+n) (t.1.getD (j+n) 0 - y),g)
theorem wG {q r U V:Nat} (h:U=q * V+r) (hr:r < V):U / V=q/\U % V=r:=by
 subst h
 constructor
 ·rw[cO,Nat.mul_add_div (by omega),Nat.div_eq_of_lt hr];rfl
 ·rw[cO,Nat.mul_add_mod,lB hr]
theorem qnv {v u:List Nat} {n j g:Nat} (hv:Dg v) (hu:Dg u) (hn:v.length=n) (hL:j+n < u.length) (hg:g < 4294967296) (D5:0 < val v)
  (h1:wn u j (n+1) / val v<=g) (h2:g * val v < wn u j (n+1)+val v) :
  Dg (zm v n j g u).1/\(zm v n j g u).1.length=u.length/\(∀ k,k < j\/j+n < k->(zm v n j g u).1.getD k 0=u.getD k 0) /\
  wn (zm v n j g u).1 j (n+1)=wn u j (n+1) % val v/\(zm v n j g u).2=wn u j (n+1) / val v:=by
 have hV:vs v n=val v:=jo (by omega);have hVP:val v < 4294967296 ^ n:=by rw[<- hn];exact nc hv
 have hw:=O0 (v:=v) (g:=g) hu j n (by omega);have hk:∀ k,k < j\/j+n<=k->(jj v g j n u).1.getD k 0=u.getD k 0:=fun k h=>OZ v g j u k n (by omega);have hl:=ES v g j u n;have hb:=ER v g j u n;have hc:=Jh hv hg j u n;have hd:=Ji (v:=v) (g:=g) hu j n;have yO:=zZ hd j n;have ht:=hk (j+n) (by omega);have By:=hu (j+n);have hUp:=zZ hu j n;have hUe:wn u j (n+1)=wn u j n+4294967296 ^ n * u.getD (j+n) 0:=rfl;rw[hUe] at h1 h2 ⊢;rw[hV] at hw;unfold zm;simp only[];generalize jj v g j n u=t at *;obtain ⟨t,b,c⟩:=t;simp only[] at *;rw[ht]
 have hU1:wn u j n+4294967296 ^ n * u.getD (j+n) 0 < (g+1) * val v:=by
  have:=Nat.lt_succ_of_le h1
  rwa [uO D5] at this
 rw[im,rl] at hU1;generalize u.getD (j+n) 0=top at *
 by_cases h:top < c+b
 ·rw[an h];simp only[];have Eb:Dg (t.set (j+n) (top+4294967296 - (c+b))):=hd.set _ _ (by omega);have ha:=TP v j (t.set (j+n) (top+4294967296 - (c+b))) n (by rw[a8];omega);have VC:∀ k,k < j\/j+n<=k->(kB v j n (t.set (j+n) (top+4294967296 - (c+b)))).1.getD k 0=(t.set (j+n) (top+4294967296 - (c+b))).getD k 0:=fun k h=>Mk v j _ k n (by omega);obtain ⟨had,hac⟩:=HU hv Eb j n;have fV:=DB v j (t.set (j+n) (top+4294967296 - (c+b))) n;rw[uD (by omega),hV] at ha;have mU:=VC (j+n) (by omega);rw[rz (by omega)] at mU;have I4:=zZ had j n
  have rH:∀ k,k < j\/j+n < k->(kB v j n (t.set (j+n) (top+4294967296 - (c+b)))).1.getD k 0=u.getD k 0:=by
   intro k bS;rw[VC k (by omega),vd (by omega),hk k (by omega)]
  rw[a8] at fV;generalize kB v j n (t.set (j+n) (top+4294967296 - (c+b)))=w at *;obtain ⟨w,x⟩:=w;simp only[] at *;rw[mU]
  have VX:wn u j n+4294967296 ^ n * top < g * val v:=by
   have:4294967296 ^ n * (top+1)<=4294967296 ^ n * (c+b):=kJ _ h;rw[gB] at this;omega
  have vh:1<=g:=by
   apply oX;intro e;rw[e,yg] at VX;omega
  obtain ⟨g',hg'⟩:∃ g',g=g'+1:=⟨g - 1,by omega⟩;subst hg';rw[im,rl] at VX h2 hw;obtain ⟨r,hr⟩:∃ r,wn u j n+4294967296 ^ n * top=g' * val v+r:=⟨_,(Nat.add_sub_cancel' (by omega)).symm⟩;obtain ⟨hq,hm⟩:=wG hr (by omega)
  have key:wn w j n+4294967296 ^ n * x=r+4294967296 ^ n * (c+b - top):=by
   have:=Jv (4294967296 ^ n) (c+b) top (by omega);omega
  have hx:x=c+b - top/\wn w j n=r:=by
   have h3:=wG (q:=x) (r:=wn w j n) (V:=4294967296 ^ n) (by rw[cO x,si]) I4;have h4:=wG (q:=c+b - top) (r:=r) (U:=wn w j n+4294967296 ^ n * x) (V:=4294967296 ^ n) (by rw[key,cO (c+b - top),si]) (by omega);exact ⟨h3.1.symm.trans h4.1,h3.2.symm.trans h4.2⟩
  refine ⟨had.set _ _ (kA _ (by omega)),by rw[a8,fV,hl],?_,?_,by rw[hq];rfl⟩
  ·intro k bS;rw[vd (by omega)];exact rH k bS
  ·rw[wn,uD (by omega),rz (by omega),hx.2,hm,hx.1];rw[show (top+4294967296 - (c+b)+(c+b - top)) % 4294967296=0 by omega]
   rfl
 ·rw[aj h];simp only[];have e:=Jv (4294967296 ^ n) top (c+b) (by omega);have hr:wn u j n+4294967296 ^ n * top=g * val v+(wn t j n+4294967296 ^ n * (top - (c+b))):=by omega
  obtain ⟨hq,hm⟩:=wG hr (by omega)
  refine ⟨hd.set _ _ (by omega),by rw[a8,hl],?_,?_,by rw[hq]⟩
  ·intro k bS;rw[vd (by omega)];exact hk k (by omega)
  ·rw[wn,uD (by omega),rz (by omega),hm]
structure KInv (v u0:List Nat) (n m j:Nat) (u q:List Nat):Prop where
 du:Dg u
 lu:u.length=m+n
 dq:Dg q
 lq:q.length=m
 hi:∀ k,j+n<=k->u.getD k 0=0
 lo:∀ k,k < j->u.getD k 0=u0.getD k 0
 lt:wn u j n < val v
 eq:wn q j (m - j) * val v+wn u j n=wn u0 j (m+n - j)
theorem KInv.step {v u0 u q:List Nat} {n m j:Nat} (hv:Dg v) (hn:v.length=n) (hj:j < m) (h:KInv v u0 n m (j+1) u q) {u':List Nat} {d:Nat}
  (du:Dg u') (lu:u'.length=u.length) (hk:∀ k,k < j\/j+n < k->u'.getD k 0=u.getD k 0)
  (hw:wn u' j (n+1)=wn u j (n+1) % val v) (hd:d=wn u j (n+1) / val v) (D5:0 < val v):KInv v u0 n m j u' (q.set j d):=by
 have hU:wn u j (n+1)=u.getD j 0+4294967296 * wn u (j+1) n:=Fu u j n;have hlt:wn u j (n+1) % val v < val v:=kA _ D5;have hVP:val v < 4294967296 ^ n:=by rw[<- hn];exact nc hv
 have mU:u'.getD (j+n) 0=0:=by
  rw[wn] at hw;apply qw;intro hne;have:4294967296 ^ n * 1<=4294967296 ^ n * u'.getD (j+n) 0:=kJ _ (by omega);omega
 have I4:wn u' j n=wn u j (n+1) % val v:=by
  rw[wn,mU,oD,ku] at hw;exact hw
 have yP:d < 4294967296:=by
  rw[hd,uO D5,hU];have h1:=h.lt;have h2:=h.du j;omega
 refine ⟨du,by rw[lu,h.lu],h.dq.set _ _ yP,by rw[a8,h.lq],?_,?_,by rw[I4];exact hlt,?_⟩
 ·intro k bS
  by_cases e:k=j+n
  ·rw[e,mU]
  ·rw[hk k (by omega)];exact h.hi k (by omega)
 ·intro k bS;rw[hk k (by omega)];exact h.lo k (by omega)
 ·have e:=h.eq;obtain ⟨r,hr⟩:∃ r,m - j=r+1:=⟨m - j - 1,by omega⟩;rw[hr,Fu,rz (by rw[h.lq];exact hj),uD (by omega),I4];rw[show m+n - j=(m+n - (j+1))+1 by omega,Fu u0,<- h.lo j (by omega),<- e,show m - (j+1)=r by omega];have h2:wn u j (n+1)=val v * d+wn u j (n+1) % val v:=by rw[hd,wj]
  rw[im,gB,cO d,fF];omega
def lr (u:List Nat) (s:Nat):Nat->List Nat
 | 0=>[]
 | i+1=>lr u s i++[u.getD i 0 / 2 ^ s+u.getD (i+1) 0 * 2 ^ (32 - s) % 4294967296]
theorem Fk (u:List Nat) (s:Nat):∀ i,(lr u s i).length=i
 | 0=>rfl
 | i+1=>by simp[lr,Fk u s i]
theorem P5 {x s:Nat} (hs:s < 32):x * 2 ^ (32 - s) % 4294967296=x % 2 ^ s * 2 ^ (32 - s):=by
 rw[<- zJ hs,Nat.mul_mod_mul_right]
theorem qaf {x s:Nat} (hs:s < 32) (hx:x < 4294967296):x / 2 ^ s < 2 ^ (32 - s):=by
 rw[uO (uQ s),cO,zJ hs];exact hx
theorem qae {x y s:Nat} (hs:s < 32) (hx:x < 4294967296):x / 2 ^ s+y * 2 ^ (32 - s) % 4294967296 < 4294967296:=by
 have h1:=qaf hs hx;have h2:y % 2 ^ s < 2 ^ s:=kA _ (uQ s);have h3:(y % 2 ^ s+1) * 2 ^ (32 - s)<=2 ^ s * 2 ^ (32 - s):=iS _ h2;rw[zJ hs,im] at h3;rw[P5 hs];omega
theorem J3 {u:List Nat} {s:Nat} (hu:Dg u) (hs:s < 32):∀ i,Dg (lr u s i)
 | 0=>yB
 | i+1=>yA (J3 hu hs i) (u6 (qae hs (hu i)))
theorem qad {u:List Nat} {s:Nat} (hs:s < 32):∀ i,2 ^ s * val (lr u s i)+u.getD 0 0 % 2 ^ s=wn u 0 i+4294967296 ^ i * (u.getD i 0 % 2 ^ s)
 | 0=>by simp[lr,val,wn]
 | i+1=>by
  have ih:=qad (u:=u) hs i;rw[lr,xL,Fk,val,val,oD,ku,P5 hs,gB,wn,br,jW];have e1:4294967296 ^ i * u.getD i 0=4294967296 ^ i * (2 ^ s * (u.getD i 0 / 2 ^ s)+u.getD i 0 % 2 ^ s):=by rw[wj]
  have e2:2 ^ s * (4294967296 ^ i * (u.getD i 0 / 2 ^ s+u.getD (i+1) 0 % 2 ^ s * 2 ^ (32 - s)))=4294967296 ^ i * (2 ^ s * (u.getD i 0 / 2 ^ s))+4294967296 ^ i * 4294967296 * (u.getD (i+1) 0 % 2 ^ s):=by
   rw[<- zJ hs];generalize (2 ^ s * 2 ^ (32 - s)) ^ i=p;generalize u.getD (i+1) 0 % 2 ^ s=y;generalize u.getD i 0 / 2 ^ s=z;generalize 2 ^ (32 - s)=b;generalize 2 ^ s=a;simp only[gB]
   congr 1
   ·simp only[Nat.mul_left_comm,cO]
   ·simp only[Nat.mul_left_comm,cO]
  rw[e2,e1,gB];omega
theorem KInv.done {v u0 u q a b:List Nat} {n m s:Nat} (hs:s < 32) (hu:u0.length=m+n) (h0:val u0=2 ^ s * val a) (hv:val v=2 ^ s * val b) (h:KInv v u0 n m 0 u q) :
  tr q=aD (val a / val b)/\tr (lr u s n)=aD (val a % val b):=by
 have hp:=uQ s;have e:=h.eq;have hlt:=h.lt;rw[Nat.sub_zero,Nat.sub_zero,Fv u0,jo (by omega),Fv q,jo (by rw[h.lq];omega),h0] at e
 have hd:2 ^ s * val a / (2 ^ s * val b)=val q/\2 ^ s * val a % (2 ^ s * val b)=wn u 0 n:=by
  rw[<- hv];exact wG e.symm hlt
 rw[Nat.mul_div_mul_left _ _ hp] at hd;rw[Nat.mul_mod_mul_left] at hd;rw[lp h.dq,lp (J3 h.du hs n),hd.1];refine ⟨rfl,?_⟩;have hr:=qad (u:=u) hs n;have mU:=h.hi n (by omega);rw[mU,Nat.zero_mod,oD,ku,<- hd.2] at hr;have hm:u.getD 0 0 % 2 ^ s < 2 ^ s:=kA _ hp;have:=(wG (q:=val a % val b) (r:=0) (U:=2 ^ s * (val a % val b)) (V:=2 ^ s) (by rw[cO];rfl) hp).1;have h3:=(wG (q:=val (lr u s n)) (r:=u.getD 0 0 % 2 ^ s) (U:=2 ^ s * (val a % val b)) (V:=2 ^ s) (by rw[<- hr,cO]) hm).1;rw[<- this,h3]
end Go.Ab
namespace Go.Ab
open Go.Proofs.Tryz
structure NOk (x:NV):Prop where
 dg:Dg x.ds
 len:x.ds.length < 2 ^ 40
 nil:x.z=true->x.ds=[]
def NV.v (x:NV):Nat:=val x.ds
theorem NOk.fr {x:NV} (h:NOk x):NOk x.fr:=⟨h.dg,h.len,h.nil⟩
theorem um {o:Own} {n:Nat} (h:(aD n).length < 2 ^ 40):NOk ⟨false,o,aD n⟩:=⟨gm n,h,by simp⟩
theorem tH {x:NV} (h:NOk x):AP ae 164 [x.av]=some (NV.av ⟨x.z,.no,aD x.v⟩):=by
 rw[rp x (by have:=h.len;omega),lp h.dg];rfl
theorem wu {x y:NV} (hx:NOk x) (hy:NOk y):AP ae 131 [x.av,y.av]=some (.int .i64 (gW x.v y.v)):=by
 rw[qf7 x y (by have:=hx.len;omega) (by have:=hy.len;omega),qk3 hx.dg hy.dg];rfl
theorem qhh {x y:NV} (hx:NOk x) (hy:NOk y):AP ae 130 [x.av,y.av]=some (NV.av ⟨false,.no,aD (x.v+y.v)⟩):=by
 rw[qf6 x y hx.len hy.len hx.dg hy.dg,qif hx.dg hy.dg];rfl
theorem yo {x y:NV} (hx:NOk x) (hy:NOk y):AP ae 127 [x.av,y.av]=some (NV.av ⟨false,.no,aD (x.v * y.v)⟩):=by
 rw[qf5 x y hx.len hy.len hx.dg hy.dg,qn8 hx.dg hy.dg];rfl
def qS (n:Nat):Own:=if n=0 then .full else .no
theorem UG (z:Bool) (o:Own) (n:Nat):tN ⟨z,o,aD n⟩=⟨z,qS n,aD n⟩:=by
 unfold tN qS;simp only[Fp]
theorem SZ {z:Bool} {o:Own} {n:Nat} (h:NOk ⟨z,o,aD n⟩):AP ae 163 [NV.av ⟨z,o,aD n⟩]=some (NV.av ⟨z,qS n,aD n⟩):=by
 rw[Sn _ h.nil h.len,UG]
theorem qoo {n:Nat} (h:n < 18446744073709551616):Ph n=aD n:=by
 rw[Ph,lp (mM.2 ⟨kA _ (by omega),u6 (by omega)⟩)];congr 1;simp only[val];omega
theorem Mc {n:Nat} (h:n < 18446744073709551616):AP ae 123 [.int .u64 n]=some (NV.av ⟨false,qS n,aD n⟩):=by
 rw[qf4 n h,qoo h,UG]
def su (ds:List Nat):Bool:=decide (ds=aD (val ds))
theorem qqk {ds:List Nat} (h:ds.length≠0) (h':ds.getD (ds.length - 1) 0≠0):tr ds=ds:=by
 obtain ⟨n,hn⟩:∃ n,ds.length=n+1:=⟨ds.length - 1,by omega⟩;rw[hn,pF] at h';rw[tr,hn,lV,aj h',<- hn,List.take_length]
theorem Zc {ds:List Nat} (h:Dg ds):B5 ds=su ds:=by
 unfold B5 su;rw[<- lp h]
 by_cases h0:ds.length=0
 ·have:ds=[]:=List.length_eq_zero_iff.1 h0;subst this
  rfl
 ·by_cases h1:ds.getD (ds.length - 1) 0=0
  ·have hlt:(tr ds).length < ds.length:=by
    obtain ⟨n,hn⟩:∃ n,ds.length=n+1:=⟨ds.length - 1,by omega⟩;rw[hn,pF] at h1;have:=Ff ds n;rw[tr,jV,hn,lV,an h1];omega
   have hne:¬ ds=tr ds:=fun e=>by rw[<- e] at hlt;omega
   rw[cT h0,cT hne,h1];rfl
  ·have:=qqk h0 h1;rw[eE this.symm,eE h1,Bool.or_true]
theorem S7 {x:NV} (h:NOk x):AP ae 181 [x.av]=some (.bool (su x.ds)):=by
 rw[qf8 x h.len,Zc h.dg]
def te (n:Nat):AV:=if n < 18446744073709551616 then .tup [.int .u64 n,.bool true] else .tup [.int .u64 0,.bool false]
theorem ZH (n:Nat):td (aD n)=te n:=by
 have hv:=gz n;have hd:=gm n;unfold te;generalize he:aD n=l at *
 match l,hv,hd with
 | [],hv,_=>
  simp only[val] at hv;subst hv
  rfl
 | [d],hv,hd=>
  have:=(mM.1 hd).1;simp only[val] at hv;rw[an (by omega),td,<- hv]
  rfl
 | [d,e],hv,hd=>
  have:=(mM.1 hd).1;have:=(mM.1 (mM.1 hd).2).1;simp only[val] at hv;rw[an (by omega),td,<- hv];congr 4;omega
 | d::e::f::l,hv,hd=>
  have hl:2 < (aD n).length:=by rw[he];simp
  have:=Ib hl
  rw[aj (by omega),td]
  ·intro h;cases h
  ·intro x h;cases h
  ·intro x y h;cases h
theorem qhq {x:NV} (h:NOk x):AP ae 182 [x.av]=some (te x.v):=by
 rw[qf9 x h.len h.dg,lp h.dg,ZH];rfl
theorem p8 (sh:Sh) (z:Bool) (o:Own) (es:List AV):∀ m k,bB m (k+1) (.lst sh z o es)=some (.lst sh z o.fr es,[]):=by
 intro m k;cases o<;>rfl
theorem jX (k:IntKind) (n:Int):∀ m j,bB m (j+1) (.int k n)=some (.int k n,[]):=fun _ _=>rfl
theorem Nh (b:Bool):∀ m j,bB m (j+1) (.bool b)=some (.bool b,[]):=fun _ _=>rfl
theorem u7 {a a' b b':AV} (ha:∀ m k,bB m (k+1) a=some (a',[])) (hb:∀ m k,bB m (k+1) b=some (b',[])):Fz (.tup [a,b]) (.tup [a',b']):=by
 intro m;show (dU (bB m 8) [a,b]).map _=_;simp[dU,ha m 7,hb m 7]
theorem wL {a a' b b' c c':AV} (ha:∀ m k,bB m (k+1) a=some (a',[])) (hb:∀ m k,bB m (k+1) b=some (b',[])) (hc:∀ m k,bB m (k+1) c=some (c',[])):Fz (.tup [a,b,c]) (.tup [a',b',c']):=by
 intro m;show (dU (bB m 8) [a,b,c]).map _=_;simp[dU,ha m 7,hb m 7,hc m 7]
theorem cM {C:Cfg} {f:Nat} {args:List AV} {m:af} (v v':AV) (hf:Fz v v') (hv:jd v'=true) (h:AC C f args []=some (v,m)):AP C f args=some v':=
 iw h (hf m) (by rw[hv,Bool.or_true])
theorem qH (x:NV):∀ m k,bB m (k+1) x.av=some (x.fr.av,[]):=p8 _ _ _ _
theorem Ba:∀ m k,bB m (k+1) aq=some (aq,[]):=p8 _ _ _ _
def BT:AV:=aq
def PV (x y:NV):AV:=if x.v < y.v then .tup [BT,.int .i64 1] else .tup [NV.av ⟨false,.no,aD (x.v - y.v)⟩,.int .i64 0]
theorem SV {x y:NV} (hx:NOk x) (hy:NOk y):AP ae 132 [x.av,y.av]=some (PV x y):=by
 have iu:=Cg x.ds;have lx:=hx.len;have e1:=tH hx.fr;have e2:=tH hy.fr;rw[show x.fr.v=x.v from rfl] at e1;rw[show y.fr.v=y.v from rfl] at e2;have rJ:(aD x.v).length < 2 ^ 40:=by rw[NV.v,<- lp hx.dg];omega
 unfold PV
 by_cases h:x.v < y.v
 ·rw[an h];refine cM _ _ (u7 Ba (jX _ _)) rfl (m:=[]) ?_;rw[SE,fe (cD x) (cD y),wu hx.fr hy.fr];simp only[aS,aa,bc,aA,gW];rw[show x.fr.v=x.v from rfl,show y.fr.v=y.v from rfl,an h,an (by omega)]
 ·rw[aj h];have key:=qpW hx.dg hy.dg (wk h);rw[lp hx.dg,lp hy.dg,JW] at key;refine cM _ _ (u7 (qH ⟨false,.no,aD (x.v - y.v)⟩) (jX _ _)) rfl (m:=[none]) ?_;rw[SE,fe (cD x) (cD y),wu hx.fr hy.fr];simp only[aS,aa,bc,aA,gW];rw[show x.fr.v=x.v from rfl,show y.fr.v=y.v from rfl,aj h,aj (by split<;>omega),cG (cD x),e1];simp only[aS,aa,cG (cD y),e2,iJ];rw[xj (by omega) (by omega)];simp only[aa];have:=qfT ⟨x.z,.no,aD x.v⟩ ⟨y.z,.no,aD y.v⟩ [] (Ko (aE ae.P f132.results.toList)) rJ (gm _) (gm _) (aD x.v).length 0 (by simp);refine this.trans ?_;rw[qb7];have hm:(nF [] (gI (aD x.v) (aD y.v) (aD x.v).length).1)[0]?=some (oc (gI (aD x.v) (aD y.v) (aD x.v).length).1):=rfl;have hp:=xr (cp:=AP ae) (g:=164) hm;rw[Ce] at hp;rw[show ([]:af).length=0 from rfl,hp,tH ⟨Cd (gm _) (gm _) _,by simp only[Ce];exact rJ,by simp⟩];simp only[aS,aa,NV.v];rw[lp (Cd (gm _) (gm _) _)] at key;rw[key]
  rfl
theorem qfX (x:NV) (d:Nat) (m:af) (K:KT) (hl:x.ds.length < 2 ^ 40) (dx:Dg x.ds) (hd:0 < d) (kP:d < 4294967296):∀ j k:Nat,k+j=x.ds.length ->
  G1 x.av (dg d) (.arr m.length 0 x.ds.length none) (.int .u64 (iC x.ds d k).2) (.int .i64 ((j:Int) - 1)) (m++[oc (iC x.ds d k).1]) K
   = K (.exit 0) (Lw (.arr m.length 0 x.ds.length none) (.int .u64 (iC x.ds d x.ds.length).2) (m++[oc (iC x.ds d x.ds.length).1])):=by
 intro j
 induction j with
 | zero=>
  intro k hk;have:k=x.ds.length:=by omega
  subst this;rw[Rx];simp[kK,aw]
 | succ j ih=>
  intro k hk;have ih:=ih (k+1) (by omega);have hr:=JM (a:=x.ds) hd k;have hq:=PL (a:=x.ds) dx hd k j;have hlen:=xF x.ds d k;have hj:=dx j;have ej:x.ds.length - 1 - k=j:=by omega
  rw[Rx,show ((j+1:Nat):Int) - 1=(j:Nat) by omega];simp only[iC,ej] at ih;generalize iC x.ds d k=t at *;simp (disch:=omega) only[EW,aa,aw,Fj,mV,kT,mJ,Fi,zU,Ch,mK];rw[ga (by omega),aa,lB hq,pz (AD ..) (by omega)];simp (disch:=omega) only[aa,ug];rw[sg _ _ (aR _)];simp only[oY,cY];exact ih
theorem qhs {x:NV} {d:Nat} (hx:NOk x) (hd:0 < d) (kP:d < 4294967296):AP ae 202 [x.av,dg d]=some (.tup [NV.av ⟨false,.no,aD (x.v / d)⟩,dg (x.v % d)]):=by
 have lx:=hx.len;obtain ⟨k1,k2⟩:=ZD hx.dg hd;have hlt:val x.ds % d < d:=kA _ hd;refine cM _ _ (u7 (qH ⟨false,.no,aD (x.v / d)⟩) (jX _ _)) rfl (m:=[none]) ?_;rw[qg5];simp only[iJ,aa];rw[xj (by omega) (by omega)];simp only[aa];rw[ug (by omega)];simp only[aa];have:=qfX x d [] (KJ (aE ae.P f202.results.toList)) lx hx.dg hd kP x.ds.length 0 (by omega);refine this.trans ?_;rw[qd2];have hm:(([]:af)++[oc (iC x.ds d x.ds.length).1])[0]?=some (oc (iC x.ds d x.ds.length).1):=rfl;have hp:=xr (cp:=AP ae) (g:=164) hm;rw[xF] at hp;rw[JN,lp (Ca hx.dg hd _)] at k1;rw[show ([]:af).length=0 from rfl,hp,tH ⟨Ca hx.dg hd _,by simp only[xF];exact lx,by simp⟩,k2];simp only[aS,aa,NV.v,mK];rw[k1,lB (Nat.lt_trans hlt kP)]
 rfl
theorem qfY (x:NV) (s:Nat) (m:af) (K:KT) (hl:x.ds.length < 2 ^ 40) (dx:Dg x.ds) (hs:s < 32):∀ j i:Nat,i+j=x.ds.length ->
  G2 (.int .u64 s) (.arr m.length 0 (x.ds.length+1) none) x.av (.int .i64 x.ds.length) (.int .i64 i) (m++[oc (jF x.ds s i)]) K
   = K (.exit 0) (Lx (.arr m.length 0 (x.ds.length+1) none) (m++[oc (jF x.ds s x.ds.length)])):=by
 intro j
 induction j with
 | zero=>
  intro i hi;have:i=x.ds.length:=by omega
  subst this;rw[Ry];simp[bc,aw]
 | succ j ih=>
  intro i hi;have ih:=ih (i+1) (by omega);have hlen:=zP x.ds s i;have hd:=dx i;have h1:=PK (s:=s) dx i (by omega);have h2:=Xy (x:=x.ds.getD i 0) hs;have h3:=NO (x:=x.ds.getD i 0) (s:=s) hd;have h4:2 ^ s<=2 ^ 31:=pY (by omega) (by omega)
  have h6:x.ds.getD i 0 * 2 ^ s % 4294967296 % 2 ^ s=0:=by
   rw[<- zJ hs,cO (2 ^ s),Nat.mul_mod_mul_right,Nat.mul_mod_left]
  rw[Ry];simp only[jF] at ih;generalize jF x.ds s i=t at *;simp (disch:=omega) only[cW,aa,aA,an,mV,kT,ga];rw[sZ (AD ..) (by omega)];simp only[dg,aa];rw[qaa hs hd,aa,Z9 h1 h6 (by omega),aa,pz (AD ..) (by omega)];simp (disch:=omega) only[aa,cr,AZ,qqs hs,J1,mK,ga];rw[sg _ _ (aR _)];simp only[oY,cY];rw[pz (AD ..) (by rw[a8];omega),sg _ _ (aR _)];simp only[oY,cY,aa];rw[lB (by omega:x.ds.getD i 0 * 2 ^ s / 4294967296 < 4294967296)];exact ih
theorem S9 {x:NV} {s:Nat} (m:af) (hx:NOk x) (hs:s < 32):AC ae 204 [x.av,.int .u64 s] m=some (.arr m.length 0 (x.ds.length+1) none,m++[oc (jF x.ds s x.ds.length)]):=by
 have lx:=hx.len;rw[qg7];simp only[iJ,aa];rw[cr (by omega),aa,xj (by omega) (by omega)];simp only[aa];refine (qfY x s m _ lx hx.dg hs x.ds.length 0 (by omega)).trans ?_;rw[qd5]
def lz (x:Nat):Nat:=31 - Nat.log2 x
theorem qnQ {x k:Nat} (h:2 ^ k<=x) (h':x < 2 ^ (k+1)):Nat.log2 x=k:=by
 have hx:x≠0:=by have:=uQ k;omega
 exact (Nat.log2_eq_iff hx).2 ⟨h,h'⟩
def I9:ByteArray:=⟨⟨[0,1,2,2,3,3,3,3,4,4,4,4,4,4,4,4,5,5,5,5,5,5,5,5,5,5,5,5,5,5,5,5,6,6,6,6,6,6,6,6,6,6,6,6,6,6,6,6,6,6,6,6,6,6,6,6,6,6,6,6,6,6,6,6,7,7,7,7,7,7,7,7,7,7,7,7,7,7,7,7,7,7,7,7,7,7,7,7,7,7,7,7,7,7,7,7,7,7,7,7,7,7,7,7,7,7,7,7,7,7,7,7,7,7,7,7,7,7,7,7,7,7,7,7,7,7,7,7,8,8,8,8,8,8,8,8,8,8,8,8,8,8,8,8,8,8,8,8,8,8,8,8,8,8,8,8,8,8,8,8,8,8,8,8,8,8,8,8,8,8,8,8,8,8,8,8,8,8,8,8,8,8,8,8,8,8,8,8,8,8,8,8,8,8,8,8,8,8,8,8,8,8,8,8,8,8,8,8,8,8,8,8,8,8,8,8,8,8,8,8,8,8,8,8,8,8,8,8,8,8,8,8,8,8,8,8,8,8,8,8,8,8,8,8,8,8,8,8,8,8,8,8,8,8,8,8]⟩⟩
theorem qnK (v:AV):sX (.str ⟨⟨[0,1,2,2,3,3,3,3,4,4,4,4,4,4,4,4,5,5,5,5,5,5,5,5,5,5,5,5,5,5,5,5,6,6,6,6,6,6,6,6,6,6,6,6,6,6,6,6,6,6,6,6,6,6,6,6,6,6,6,6,6,6,6,6,7,7,7,7,7,7,7,7,7,7,7,7,7,7,7,7,7,7,7,7,7,7,7,7,7,7,7,7,7,7,7,7,7,7,7,7,7,7,7,7,7,7,7,7,7,7,7,7,7,7,7,7,7,7,7,7,7,7,7,7,7,7,7,7,8,8,8,8,8,8,8,8,8,8,8,8,8,8,8,8,8,8,8,8,8,8,8,8,8,8,8,8,8,8,8,8,8,8,8,8,8,8,8,8,8,8,8,8,8,8,8,8,8,8,8,8,8,8,8,8,8,8,8,8,8,8,8,8,8,8,8,8,8,8,8,8,8,8,8,8,8,8,8,8,8,8,8,8,8,8,8,8,8,8,8,8,8,8,8,8,8,8,8,8,8,8,8,8,8,8,8,8,8,8,8,8,8,8,8,8,8,8,8,8,8,8,8,8,8,8,8,8]⟩⟩) v=sX (.str I9) v:=rfl
theorem qnJ:∀ x:Fin 256,(I9[x.1]?).map (fun b=>b.toNat)=some (if x.1=0 then 0 else Nat.log2 x.1+1):=by decide +kernel
theorem I8 {x:Nat} (h:0 < x) (h':x < 256):sX (.str I9) (.int .u8 x)=some (.int .u8 (Nat.log2 x+1:Nat)):=by
 have:=qnJ ⟨x,h'⟩;simp only[aj (Nat.pos_iff_ne_zero.1 h)] at this;rw[sX,an (by omega),cH]
 cases he:I9[x]? with
 | none=>rw[he] at this;cases this
 | some b=>
  rw[he] at this;simp only[aS,bO] at this ⊢;rw[this]
theorem H3 {a:Nat} {k:IntKind} (h:a < 256):bq .u8 (.int k a)=some (.int .u8 a):=by
 rw[lZ,show IntKind.wrap .u8 (a:Int)=(a:Int) % 256 from rfl,Int.emod_eq_of_lt (by omega) (by omega)]
theorem H2 {a:Nat} {k:IntKind} (h:a < 9223372036854775808):bq .i64 (.int k a)=some (.int .i64 a):=by
 rw[lZ,iQ (by omega) (by omega)]
theorem OR {x k:Nat} (h:2 ^ k<=x):Nat.log2 x=Nat.log2 (x / 2 ^ k)+k:=by
 have hp:=uQ k
 have hy:x / 2 ^ k≠0:=by
  have:0 < x / 2 ^ k:=Nat.div_pos h hp;omega
 have h1:=Nat.log2_self_le hy;have h2:=Nat.lt_log2_self (n:=x / 2 ^ k)
 apply qnQ
 ·rw[rm];exact (Hg hp).1 h1
 ·rw[show Nat.log2 (x / 2 ^ k)+k+1=Nat.log2 (x / 2 ^ k)+1+k by omega,rm];exact (uO hp).1 h2
theorem qqr {tk:TK} {a:Nat}:ag tk .shr (.int .u32 a) (.int .u64 16)=some (.int .u32 (a / 65536:Nat)):=P2 (s:=16) (by omega)
theorem qab {tk:TK} {a:Nat}:ag tk .shr (.int .u32 a) (.int .u64 8)=some (.int .u32 (a / 256:Nat)):=P2 (s:=8) (by omega)
theorem Jc {x:Nat} (h:x < 256):Nat.log2 x < 8:=by
 by_cases h0:x=0
 ·subst h0;decide
 ·exact (Nat.log2_lt h0).2 h
theorem qg3 {x:Nat} (m:af) (h:0 < x) (h':x < 4294967296):AC ae 199 [dg x] m=some (.int .i64 (Nat.log2 x+1:Nat),m):=by
 have g1:ag .other .geq (dg x) (.int .u32 65536)=some (.bool (decide (x≥65536))):=Jj (b:=65536);have g2:∀ y:Nat,ag .other .geq (.int .u32 y) (.int .u32 256)=some (.bool (decide (y≥256))):=fun y=>Jj (b:=256);have g3:ag .other .geq (dg x) (.int .u32 256)=some (.bool (decide (x≥256))):=Jj (b:=256);have a1:ag .other .add (.int .i64 16) (.int .i64 8)=some (.int .i64 24):=rfl;have a2:ag .other .add (.int .i64 0) (.int .i64 8)=some (.int .i64 8):=rfl;have b1:∀ y:Nat,y < 300->ag .other .add (.int .i64 24) (.int .i64 y)=some (.int .i64 (24+y:Nat)):=fun y h=>kS (a:=24) (by omega);have b2:∀ y:Nat,y < 300->ag .other .add (.int .i64 16) (.int .i64 y)=some (.int .i64 (16+y:Nat)):=fun y h=>kS (a:=16) (by omega);have b3:∀ y:Nat,y < 300->ag .other .add (.int .i64 8) (.int .i64 y)=some (.int .i64 (8+y:Nat)):=fun y h=>kS (a:=8) (by omega);have b4:∀ y:Nat,y < 300->ag .other .add (.int .i64 0) (.int .i64 y)=some (.int .i64 (0+y:Nat)):=fun y h=>kS (a:=0) (by omega);have s1:ag .other .shr (dg x) (.int .u64 16)=some (.int .u32 (x / 65536:Nat)):=qqr;have s2:ag .other .shr (dg x) (.int .u64 8)=some (.int .u32 (x / 256:Nat)):=qab
 have k0:bq .u8 (dg x)=if x < 256 then some (.int .u8 x) else bq .u8 (dg x):=by
  split
  ·rename_i h;exact H3 h
  ·rfl
 rw[qg2];simp only[qnK,g1,g2,g3,a1,a2,s1,s2,aa,aA,qab]
 by_cases c1:x≥65536
 ·rw[an c1];have e1:=OR (x:=x) (k:=16) (by omega);rw[show 2 ^ 16=65536 from rfl] at e1
  by_cases c2:x / 65536≥256
  ·rw[an c2];have e2:=OR (x:=x / 65536) (k:=8) (by omega);rw[show 2 ^ 8=256 from rfl] at e2;have l8:=Jc (x:=x / 65536 / 256) (by omega);rw[H3 (by omega),aa,I8 (by omega) (by omega),aa,H2 (by omega),aa,b1 _ (by omega),aa];congr 4;omega
  ·rw[aj c2];have l8:=Jc (x:=x / 65536) (by omega);rw[H3 (by omega),aa,I8 (by omega) (by omega),aa,H2 (by omega),aa,b2 _ (by omega),aa];congr 4;omega
 ·rw[aj c1]
  by_cases c2:x≥256
  ·rw[an c2];have e2:=OR (x:=x) (k:=8) (by omega);rw[show 2 ^ 8=256 from rfl] at e2;have l8:=Jc (x:=x / 256) (by omega);rw[H3 (by omega),aa,I8 (by omega) (by omega),aa,H2 (by omega),aa,b3 _ (by omega),aa];congr 4;omega
  ·rw[aj c2];have l8:=Jc (x:=x) (by omega);rw[k0,an (by omega),aa,I8 (by omega) (by omega),aa,H2 (by omega),aa,b4 _ (by omega),aa];congr 4;omega
theorem qhr {x:Nat} (h:0 < x) (h':x < 4294967296):AP ae 199 [dg x]=some (.int .i64 (Nat.log2 x+1:Nat)):=
 iw (qg3 [] h h') (fW _ _ _) (by simp[jd])
theorem qht {x:Nat} (h:0 < x) (h':x < 4294967296):AP ae 203 [dg x]=some (.int .i64 (lz x:Nat)):=by
 have hl:Nat.log2 x < 32:=(Nat.log2_lt (by omega)).2 h';refine iw (m:=[]) ?_ (fW _ _ _) (by simp[jd]);rw[qg6,cG (a:=dg x) (a':=dg x) (fW .u32 x),qhr h h'];simp only[aS,aa];have e:ag .other .sub (.int .i64 32) (.int .i64 (Nat.log2 x+1:Nat))=some (.int .i64 (32 - (Nat.log2 x+1):Nat)):=nD (a:=32) (by omega) (by omega);have e2:32 - (Nat.log2 x+1)=lz x:=by rw[lz];omega
 rw[e,e2]
 rfl
end Go.Ab
namespace Go.Ab
open Go.Proofs.Tryz
theorem qhT (v:NV) (u:List Nat) (m:af) (K:KT) (x9 aV:AV) (nu L n j top v1 v2 u0 p lo vlo q:Nat)
  (hn:v.ds.length=n) (nA:2<=n) (hm:m[nu]?=some (oc u)) (hL:u.length=L) (yK:L < 2 ^ 42) (V8:j+n < L) (du:Dg u) (dv:Dg v.ds)
  (e1:v.ds.getD (n - 1) 0=v1) (e2:v.ds.getD (n - 2) 0=v2) (e3:u.getD (j+n - 2) 0=u0)
  (kF:2147483648<=v1) (mU:top<=v1 * 4294967296+4294967295) (hZ:lo < p) (WI:vlo < p)
  (hq:q=((top * 4294967296+u0) * p+lo) / ((v1 * 4294967296+v2) * p+vlo)) (hqB:q < 4294967296) :
  ∀ k g r:Nat,4294967296<=r+k * v1->r < 4294967296->g * v1+r=top->q<=g ->
  ∃ g',q<=g'/\g' < 4294967296/\g' * ((v1 * 4294967296+v2) * p+vlo) < ((top * 4294967296+u0) * p+lo)+((v1 * 4294967296+v2) * p+vlo) /\
   Av x9 (.arr nu 0 L none) v.av (.int .i64 n) aV (.int .i64 j) (.int .u64 g) (.int .u64 r) m K
    = K (.exit 3) (yh x9 (.arr nu 0 L none) v.av (.int .i64 n) aV (.int .i64 j) (.int .u64 g') m):=by
 have qqY:v1 < 4294967296:=e1▸dv (n - 1);have qnh:v2 < 4294967296:=e2▸dv (n - 2);have qng:u0 < 4294967296:=e3▸du (j+n - 2);intro k
 induction k with
 | zero=>intro g r h1 h2;omega
 | succ k ih=>
  intro g r h1 h2 h3 h4
  have hgB:g < 4294967296+2:=by
   have:g * v1 < (4294967296+2) * v1:=by omega
   exact Hh this
  have Ei:g * v2<=4294967297 * 4294967295:=sj (by omega) (by omega)
  have dec:q < g->∃ g',q<=g'/\g' < 4294967296/\g' * ((v1 * 4294967296+v2) * p+vlo) < ((top * 4294967296+u0) * p+lo)+((v1 * 4294967296+v2) * p+vlo) /\
    (if r+v1≥4294967296 then K (.exit 3) (yh x9 (.arr nu 0 L none) v.av (.int .i64 n) aV (.int .i64 j) (.int .u64 (g - 1:Nat)) m)
     else Av x9 (.arr nu 0 L none) v.av (.int .i64 n) aV (.int .i64 j) (.int .u64 (g - 1:Nat)) (.int .u64 (r+v1:Nat)) m K)
    = K (.exit 3) (yh x9 (.arr nu 0 L none) v.av (.int .i64 n) aV (.int .i64 j) (.int .u64 g') m):=by
   intro vy;obtain ⟨g1,vh⟩:∃ g1,g=g1+1:=⟨g - 1,by omega⟩;subst vh;rw[im,rl] at h3;rw[pF]
   by_cases hb:r+v1≥4294967296
   ·rw[an hb]
    have hlt:g1 < 4294967296:=by
     have:g1 * v1 < 4294967296 * v1:=by omega
     exact Hh this
    refine ⟨g1,by omega,hlt,?_,rfl⟩;have h5:g1 * v2<=4294967296 * 4294967295:=sj (by omega) (by omega);exact Vq (r:=r+v1) (top:=top) (u0:=u0) (by omega) (by omega) hlt WI (by omega) rfl rfl
   ·rw[aj hb];rw[im] at h1;exact ih g1 (r+v1) (by omega) (by omega) (by omega) (by omega)
  rw[qfW];simp (disch:=omega) only[qoa,aa,aA,J2,ph,mV,kT,mJ,n8,e1]
  by_cases c1:g≥4294967296
  ·rw[an c1];exact dec (by omega)
  ·rw[aj c1];simp (disch:=omega) only[WO,aa,mV,kT,e2]
   rw[mJ v2 qnh,aa,Fh (by omega),aa,Fj (by omega),aa,kS (by omega),aa,WO (by omega) (by omega),aa,ga (by omega),aa,
    sZ hm (by omega),aa,e3,mJ u0 qng,aa,Fi (by omega) (by omega),aa,BP,aa,aA]
   by_cases c2:g * v2 > r * 4294967296+u0
   ·have vy:=ql1 (q:=q) (vlo:=vlo) h3 c2 hZ (by rw[hq];exact Hf _ _);rw[an c2,J2 (by omega) (by omega),aa];exact dec vy
   ·rw[aj c2];exact ⟨g,h4,by omega,Vq h3 (wk c2) (by omega) WI (by omega) rfl rfl,rfl⟩
theorem qhU (v:NV) (u:List Nat) (m0:af) (K:KT) (x9 aV:AV) (nu L n j g:Nat)
  (hn:v.ds.length=n) (hm:m0[nu]?=some (oc u)) (hL:u.length=L) (yK:L < 2 ^ 42) (V8:j+n < L) (du:Dg u) (dv:Dg v.ds) (hg:g < 4294967296):∀ r i:Nat,i+r=n ->
  CU x9 (.arr nu 0 L none) v.av (.int .i64 n) aV (.int .i64 j) (.int .u64 g) (.int .u64 (jj v.ds g j i u).2.1) (.int .u64 (jj v.ds g j i u).2.2) (.int .i64 n) (.int .i64 i) (m0.set nu (oc (jj v.ds g j i u).1)) K
   = K (.exit 5) (Lr x9 (.arr nu 0 L none) v.av (.int .i64 n) aV (.int .i64 j) (.int .u64 g) (.int .u64 (jj v.ds g j n u).2.1) (.int .u64 (jj v.ds g j n u).2.2) (m0.set nu (oc (jj v.ds g j n u).1))):=by
 have N8:nu < m0.length:=by
  apply qw;intro h;rw[ow (by omega)] at hm;cases hm
 intro r
 induction r with
 | zero=>
  intro i hi;have:i=n:=by omega
  subst this;rw[Rr];simp[bc,aw]
 | succ r ih=>
  intro i hi;have ih:=ih (i+1) (by omega);have hlen:=ES v.ds g j u i;have hb:=ER v.ds g j u i;have hc:=Jh dv hg j u i;have hd:=Ji (v:=v.ds) (g:=g) du j i (i+j);have hvd:=dv i;have Ei:g * v.ds.getD i 0<=4294967295 * 4294967295:=sj (by omega) (by omega);have s1:ag .other .shl (.int .u64 1) (.int .u64 32)=some (.int .u64 (4294967296:Nat)):=rfl;have s0:ag .other .shl (.int .u64 0) (.int .u64 32)=some (.int .u64 (0:Nat)):=rfl;rw[Rr];simp only[jj] at ih;generalize jj v.ds g j i u=t at *;obtain ⟨t,b,c⟩:=t;simp only[] at *;have aU:(m0.set nu (oc t))[nu]?=some (oc t):=Da N8;simp (disch:=omega) only[cW,aa,aA,an,mV,kT,mJ,Fh,n8,qqt,kS,ga,sZ aU,J1,cr]
  by_cases h:t.getD (i+j) 0 < (c+g * v.ds.getD i 0) % 4294967296+b
  ·rw[an h];rw[an h] at ih;rw[s1,aa,n8 (by omega),aa,zV (by omega) (by omega),aa,mK,aa,lB (by omega),pz aU (by omega),AK];exact ih
  ·rw[aj h];rw[aj h] at ih;rw[s0,aa,n8 (by omega),aa,zV (by omega) (by omega),aa,mK,aa,lB (by omega),pz aU (by omega),AK];exact ih
theorem qhV (v:NV) (u:List Nat) (m0:af) (K:KT) (x9 aV bT:AV) (nu L n j:Nat)
  (hn:v.ds.length=n) (hm:m0[nu]?=some (oc u)) (hL:u.length=L) (yK:L < 2 ^ 42) (V8:j+n < L) (du:Dg u) (dv:Dg v.ds):∀ r i:Nat,i+r=n ->
  GX x9 (.arr nu 0 L none) v.av (.int .i64 n) aV (.int .i64 j) bT (.int .u64 (kB v.ds j i u).2) (.int .i64 n) (.int .i64 i) (m0.set nu (oc (kB v.ds j i u).1)) K
   = K (.exit 7) (Ls x9 (.arr nu 0 L none) v.av (.int .i64 n) aV (.int .i64 j) bT (.int .u64 (kB v.ds j n u).2) (m0.set nu (oc (kB v.ds j n u).1))):=by
 have N8:nu < m0.length:=by
  apply qw;intro h;rw[ow (by omega)] at hm;cases hm
 intro r
 induction r with
 | zero=>
  intro i hi;have:i=n:=by omega
  subst this;rw[Rs];simp[bc,aw]
 | succ r ih=>
  intro i hi;have ih:=ih (i+1) (by omega);have hlen:=DB v.ds j u i;obtain ⟨hd,hc⟩:=HU dv du j i;have hd:=hd (i+j);have hvd:=dv i;rw[Rs];simp only[kB] at ih;generalize kB v.ds j i u=t at *;obtain ⟨t,c⟩:=t;simp only[] at *;have aU:(m0.set nu (oc t))[nu]?=some (oc t):=Da N8;simp (disch:=omega) only[cW,aa,aA,an,mV,kT,mJ,n8,kS,ga,sZ aU,J1,cr,mK,pz aU,AK];exact ih
theorem qqu {tk:TK} {t y:Nat} (ht:t < 4294967296) (hy:y<=4294967296):∃ w,ag tk .sub (.int .u64 t) (.int .u64 y)=some w/\bq .u32 w=some (.int .u32 ((t+4294967296 - y) % 4294967296:Nat)):=by
 refine ⟨_,pH _ _ _ _,?_⟩;rw[lZ,xP,qaq];congr 2;omega
theorem qnx {v u:List Nat} {n j:Nat} (hv:Dg v) (hu:Dg u) (hn:v.length=n) (nA:2<=n) :
  val v=(v.getD (n - 1) 0 * 4294967296+v.getD (n - 2) 0) * 4294967296 ^ (n - 2)+vs v (n - 2) /\
  wn u j (n+1)=((u.getD (j+n) 0 * 4294967296+u.getD (j+n - 1) 0) * 4294967296+u.getD (j+n - 2) 0) * 4294967296 ^ (n - 2)+wn u j (n - 2):=by
 obtain ⟨k,rfl⟩:∃ k,n=k+2:=⟨n - 2,by omega⟩;have e1:k+2 - 1=k+1:=by omega
 have e2:k+2 - 2=k:=by omega
 have e3:j+(k+2) - 1=j+(k+1):=by omega
 have e4:j+(k+2) - 2=j+k:=by omega
 rw[e1,e2,e3,e4]
 constructor
 ·rw[<- jo (Nat.le_of_eq hn),jT,jT,jW,im,cO (4294967296 ^ k) (v.getD k 0),cO (4294967296 ^ k * 4294967296),cO (4294967296 ^ k),fF];omega
 ·rw[wn,wn,wn,jW (m:=k+1),jW];rw[im,im,im,cO (4294967296 ^ k) (u.getD (j+k) 0),cO (4294967296 ^ k * 4294967296) (u.getD (j+(k+1)) 0),cO (4294967296 ^ k * 4294967296 * 4294967296),cO (4294967296 ^ k),];generalize 4294967296 ^ k=p;have h1:u.getD (j+(k+1)) 0 * (4294967296 * p)=u.getD (j+(k+1)) 0 * 4294967296 * p:=(fF _ _ _).symm
  have h2:u.getD (j+(k+2)) 0 * (4294967296 * p * 4294967296)=u.getD (j+(k+2)) 0 * 4294967296 * 4294967296 * p:=by
   rw[Nat.mul_right_comm 4294967296 p,<- fF,<- fF]
  rw[h1,h2];omega
theorem qnw {v u0 u q:List Nat} {n m j:Nat} (hv:Dg v) (hn:v.length=n) (nA:2<=n) (h:KInv v u0 n m (j+1) u q) :
  u.getD (j+n) 0<=v.getD (n - 1) 0/\wn u j (n+1) / val v < 4294967296/\0 < val v:=by
 have hlt:=h.lt;have hp:0 < val v:=by omega
 obtain ⟨k,rfl⟩:∃ k,n=k+1:=⟨n - 1,by omega⟩;have hV:val v=vs v k+4294967296 ^ k * v.getD k 0:=by rw[<- jo (Nat.le_of_eq hn),jT]
 have h1:=xO hv k
 refine ⟨?_,?_,hp⟩
 ·rw[pF];rw[wn,show j+1+k=j+(k+1) by omega] at hlt;apply wk;intro hc;have:4294967296 ^ k * (v.getD k 0+1)<=4294967296 ^ k * u.getD (j+(k+1)) 0:=kJ _ hc;rw[gB] at this;omega
 ·rw[uO hp,Fu];have h2:=h.du j;omega
theorem qlx {top u0 v1 v2 p lo vlo:Nat} (kF:0 < v1) (hZ:lo < p) (hu:u0 < 4294967296) :
  ((top * 4294967296+u0) * p+lo) / ((v1 * 4294967296+v2) * p+vlo)<=top / v1:=by
 have h:=Hf ((top * 4294967296+u0) * p+lo) ((v1 * 4294967296+v2) * p+vlo);generalize ((top * 4294967296+u0) * p+lo) / ((v1 * 4294967296+v2) * p+vlo)=q at *;rw[Hg kF]
 have h1:(top * 4294967296+u0) * p+lo < (top+1) * 4294967296 * p:=by
  have:(top * 4294967296+u0+1) * p<=(top+1) * 4294967296 * p:=iS _ (by omega);rw[im _ 1,rl] at this;omega
 have h2:q * v1 * 4294967296 * p<=q * ((v1 * 4294967296+v2) * p+vlo):=by
  rw[fF q,fF q];exact kJ _ (ef (iS _ (Nat.le_add_right _ _)) (Nat.le_add_right _ _))
 have h3:q * v1 * 4294967296 * p < (top+1) * 4294967296 * p:=by omega
 have h4:=Hh (Hh h3);omega
def M3 (u q:List Nat):af:=[oc u,none,oc q]
theorem qhS (v:NV) (u0:List Nat) (K:KT) (x9:AV) (L n mm:Nat)
  (hn:v.ds.length=n) (nA:2<=n) (dv:Dg v.ds) (hL:L=mm+n) (yK:L < 2 ^ 42) (kF:2147483648<=v.ds.getD (n - 1) 0):∀ (j:Nat) (u q:List Nat),j<=mm->KInv v.ds u0 n mm j u q ->
  ∃ u' q',KInv v.ds u0 n mm 0 u' q'/\CT x9 (.arr 0 0 L none) v.av (.int .i64 n) (.arr 2 0 mm none) (.int .i64 ((j:Int) - 1)) (M3 u q) K
   = K (.exit 1) (Lq x9 (.arr 0 0 L none) (.int .i64 n) (.arr 2 0 mm none) (M3 u' q')):=by
 intro j
 induction j with
 | zero=>
  intro u q _ hI;refine ⟨u,q,hI,?_⟩;rw[Rq];simp[kK,aw]
 | succ j ih=>
  intro u q hj hI;have hu:=hI.du;have Wf:=hI.lu;have yX:=hI.lq;obtain ⟨p1,p2,p3⟩:=qnw dv hn nA hI;obtain ⟨t1,t2⟩:=qnx (j:=j) dv hu hn nA;have d1:=hu (j+n);have d2:=hu (j+n - 1);have d3:=dv (n - 1);have aU:(M3 u q)[0]?=some (oc u):=rfl;have D5:=p3;rw[Rq,show ((j+1:Nat):Int) - 1=(j:Nat) by omega];simp (disch:=omega) only[EW,aa,aw,kS,ga,sZ aU,mJ,Fj,ph,Fi,mV,kT,zU,Ch];have kG:=xO dv (n - 2);have hws:=zZ hu j (n - 2);have Iy:=wj (u.getD (j+n) 0 * 4294967296+u.getD (j+n - 1) 0) (v.ds.getD (n - 1) 0);have hrm:(u.getD (j+n) 0 * 4294967296+u.getD (j+n - 1) 0) % v.ds.getD (n - 1) 0 < v.ds.getD (n - 1) 0:=kA _ (by omega);have hq:wn u j (n+1) / val v.ds=(((u.getD (j+n) 0 * 4294967296+u.getD (j+n - 1) 0) * 4294967296+u.getD (j+n - 2) 0) * 4294967296 ^ (n - 2)+wn u j (n - 2)) / ((v.ds.getD (n - 1) 0 * 4294967296+v.ds.getD (n - 2) 0) * 4294967296 ^ (n - 2)+vs v.ds (n - 2)):=by rw[t1,t2]
  have hle:u.getD (j+n) 0 * 4294967296+u.getD (j+n - 1) 0<=v.ds.getD (n - 1) 0 * 4294967296+4294967295:=by omega
  have h0:4294967296<=(u.getD (j+n) 0 * 4294967296+u.getD (j+n - 1) 0) % v.ds.getD (n - 1) 0+2 * v.ds.getD (n - 1) 0:=by omega
  have h1:(u.getD (j+n) 0 * 4294967296+u.getD (j+n - 1) 0) % v.ds.getD (n - 1) 0 < 4294967296:=by omega
  have h2:(u.getD (j+n) 0 * 4294967296+u.getD (j+n - 1) 0) / v.ds.getD (n - 1) 0 * v.ds.getD (n - 1) 0+(u.getD (j+n) 0 * 4294967296+u.getD (j+n - 1) 0) % v.ds.getD (n - 1) 0=u.getD (j+n) 0 * 4294967296+u.getD (j+n - 1) 0:=by rw[cO];exact Iy
  have h3:wn u j (n+1) / val v.ds<=(u.getD (j+n) 0 * 4294967296+u.getD (j+n - 1) 0) / v.ds.getD (n - 1) 0:=by
   rw[t1,t2];exact qlx (by omega) hws (hu _)
  obtain ⟨g,g1,g2,g3,g4⟩:=qhT v u (M3 u q) (KD K) x9 (.arr 2 0 mm none) 0 L n j (u.getD (j+n) 0 * 4294967296+u.getD (j+n - 1) 0) (v.ds.getD (n - 1) 0) (v.ds.getD (n - 2) 0) (u.getD (j+n - 2) 0) (4294967296 ^ (n - 2)) (wn u j (n - 2)) (vs v.ds (n - 2))
   (wn u j (n+1) / val v.ds) hn nA aU (by omega) yK (by omega) hu dv rfl rfl rfl kF hle hws kG hq p2 2 ((u.getD (j+n) 0 * 4294967296+u.getD (j+n - 1) 0) / v.ds.getD (n - 1) 0) ((u.getD (j+n) 0 * 4294967296+u.getD (j+n - 1) 0) % v.ds.getD (n - 1) 0) h0 h1 h2 h3
  rw[<- t1,<- t2] at g3;obtain ⟨s1,s2,s3,s4,s5⟩:=qnv dv hu hn (by omega) g2 p3 g1 g3;have D3:=KInv.step dv hn (by omega) hI s1 s2 s3 s4 s5 p3;have yP:=D3.dq j;have qqQ:=D3.lq;rw[rz (by omega)] at yP;obtain ⟨u',q',i1,i2⟩:=ih _ _ (by omega) D3;refine ⟨u',q',i1,g4.trans ?_⟩;rw[qdz];have m0:=qhU v u (M3 u q) (KE K) x9 (.arr 2 0 mm none) 0 L n j g hn aU (by omega) yK (by omega) hu dv g2 n 0 (by omega)
  refine Eq.trans ?_ (m0.trans ?_)
  ·rfl
  rw[qdE];have hb:=ER v.ds g j u n;have hc:=Jh dv g2 j u n;have hd:=Ji (v:=v.ds) (g:=g) hu j n;have hl:=ES v.ds g j u n;have qnj:=O0 (v:=v.ds) (g:=g) hu j n (by omega);unfold zm at i2 yP;simp only[] at i2 yP;generalize jj v.ds g j n u=t at *;obtain ⟨t,b,c⟩:=t;simp only[] at *;have hM:(M3 u q).set 0 (oc t)=M3 t q:=rfl;have V4:(M3 t q)[0]?=some (oc t):=rfl;have Om:∀ l r:List Nat,(M3 l q).set 0 (oc r)=M3 r q:=fun _ _=>rfl;have Bn:∀ l r:List Nat,(M3 l r)[2]?=some (oc r):=fun _ _=>rfl;have Ey:∀ l r p:List Nat,(M3 l r).set 2 (oc p)=M3 l p:=fun _ _ _=>rfl;rw[hM];have hd4:=hd (j+n);obtain ⟨w,w1,w2⟩:=qqu (tk:=.other) (t:=t.getD (j+n) 0) (y:=c+b) hd4 (by omega);simp (disch:=omega) only[n8,aa,kS,ga,sZ V4,mJ,cW,w1,w2,pz V4,Om];rw[aA]
  by_cases qd:t.getD (j+n) 0 < c+b
  ·rw[an qd];rw[an qd] at i2 yP;have VO:Dg (t.set (j+n) (t.getD (j+n) 0+4294967296 - (c+b))):=hd.set _ _ (by omega);have m1:=qhV v (t.set (j+n) (t.getD (j+n) 0+4294967296 - (c+b))) (M3 (t.set (j+n) (t.getD (j+n) 0+4294967296 - (c+b))) q) (KF K) x9 (.arr 2 0 mm none) (.int .u64 (g - 1:Nat)) 0 L n j hn rfl (by rw[a8];omega) yK (by omega) VO dv n 0 (by omega);have ha:=HU dv VO j n;have fV:=DB v.ds j (t.set (j+n) (t.getD (j+n) 0+4294967296 - (c+b))) n
   have VW:0 < g:=by
    apply oX;intro e0;rw[e0,yg,ku] at qnj;have hlt:=zZ hd j n;have h9:4294967296 ^ n * 1<=4294967296 ^ n * (c+b):=kJ _ (by omega);omega
   rw[show (t.getD (j+n) 0+4294967296 - (c+b)) % 4294967296=t.getD (j+n) 0+4294967296 - (c+b) by omega,J2 (by omega) (by omega),aa];rw[a8] at fV
   refine Eq.trans ?_ (m1.trans ?_)
   ·rfl
   generalize kB v.ds j n (t.set (j+n) (t.getD (j+n) 0+4294967296 - (c+b)))=w at *;obtain ⟨w,x⟩:=w;simp only[] at *;obtain ⟨a1,a2⟩:=ha;rw[Om,qdK];have V5:(M3 w q)[0]?=some (oc w):=rfl
   rw[kS (by omega),aa,ga (by omega),aa,sZ V5 (by omega),aa,mK,aa,lB (by omega:x < 4294967296),dg,qqp,aa,aa,
    pz V5 (by omega),Om,aa,mK,aa,ga (by omega),aa,pz (Bn _ _) (by omega),Ey,aa,ug (by omega),aa]
   rw[lB (by omega:g - 1 < 4294967296)];exact i2
  ·rw[aj qd];rw[aj qd] at i2 yP;rw[mK,aa,pz (Bn _ _) (by omega),Ey,aa,ug (by omega),aa];rw[show (t.getD (j+n) 0+4294967296 - (c+b)) % 4294967296=t.getD (j+n) 0 - (c+b) by omega,lB g2];exact i2
theorem qhW (u q:List Nat) (K:KT) (aV:AV) (s L n:Nat) (du:Dg u) (hL:u.length=L) (yK:L < 2 ^ 42) (hn:n < L) (hs:s < 32):∀ r i:Nat,i+r=n ->
  CW (.int .u64 s) (.arr 0 0 L none) aV (.arr 3 0 n none) (.int .i64 n) (.int .i64 i) (M3 u q++[oc (lr u s i++List.replicate r 0)]) K
   = K (.exit 9) (Lt aV (.arr 3 0 n none) (M3 u q++[oc (lr u s n)])):=by
 intro r
 induction r with
 | zero=>
  intro i hi;have:i=n:=by omega
  subst this;rw[Rt];simp[bc,aw]
 | succ r ih=>
  intro i hi;have ih:=ih (i+1) (by omega);have hlen:=Fk u s i;have yO:=du i;have Eb:=du (i+1);have b1:=qaf hs yO;have b2:=qae (y:=u.getD (i+1) 0) hs yO;have b3:u.getD (i+1) 0 * 2 ^ (32 - s) % 4294967296 % 2 ^ (32 - s)=0:=by rw[P5 hs,Nat.mul_mod_left]
  have ID:∀ l,(M3 u q++[oc l])[0]?=some (oc u):=fun _=>rfl;have Bn:∀ l,(M3 u q++[oc l])[3]?=some (oc l):=fun _=>rfl;have Ey:∀ l l',(M3 u q++[oc l]).set 3 (oc l')=M3 u q++[oc l']:=fun _ _=>rfl
  have IW:∀ x,(lr u s i++List.replicate (r+1) 0).set i x=lr u s i++x::List.replicate r 0:=by
   intro x;rw[sg _ _ (by omega),hlen,oY,yf,cY]
  have qm4:∀ x y,(lr u s i++x::List.replicate r 0).set i y=lr u s i++y::List.replicate r 0:=by
   intro x y;rw[sg _ _ (by omega),hlen,oY,cY]
  have qm5:∀ x,(lr u s i++x::List.replicate r 0).getD i 0=x:=by
   intro x;rw[aT,sa (by omega),hlen,oY]
   rfl
  have lP:i < (lr u s i++List.replicate (r+1) 0).length:=by rw[aI,hlen,uK];omega
  have gC:∀ x,i < (lr u s i++x::List.replicate r 0).length:=by intro x;rw[aI,hlen,aL,uK];omega
  rw[lr,gd,b8,bQ] at ih
  rw[Rt,cW,aa,aA,an (by omega),ga (by omega),aa,sZ (ID _) (by omega),aa,dg,P2 hs,aa,ga (by omega),aa,
   pz (Bn _) lP,Ey,IW,aa,vJ,aa,aA]
  by_cases h0:s > 0
  ·rw[an h0];have e32:ag .other .sub (.int .u64 32) (.int .u64 s)=some (.int .u64 (32 - s:Nat)):=zV (a:=32) (by omega) (by omega)
   rw[aa,sZ (Bn _) (gC _),aa,qm5,cr (by omega),aa,ga (by omega),aa,sZ (ID _) (by omega),aa,e32,aa,dg,dg,qaa (by omega) Eb,aa,
    Z9 b1 b3 b2,aa,aa,pz (Bn _) (gC _),Ey,qm4,aa,aa]
   exact ih
  ·rw[aj h0,cr (by omega),aa];have nQ:s=0:=by omega
   subst nQ;rw[show u.getD (i+1) 0 * 2 ^ (32 - 0) % 4294967296=0 from Nat.mul_mod_left _ _,ku] at ih;exact ih
end Go.Ab
