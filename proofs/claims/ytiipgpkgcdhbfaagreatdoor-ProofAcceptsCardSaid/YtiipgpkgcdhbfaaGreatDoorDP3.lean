/- What the interpreter does, function by function. -/
import Derived.Test.YtiipgpkgcdhbfaaGreatDoorDP2
import Derived.Test.YtiipgpkgcdhbfaaGreatDoorDP1
set_option maxRecDepth 100000
set_option linter.unusedVariables false
set_option linter.unusedSimpArgs false
set_option linter.unusedSectionVars false
namespace Go.Ab
noncomputable section
open Go.Proofs.Tryz
def KY (m:af):St:=⟨(bI (bC (aK []))),m⟩
def CP (x4:AV) (m:af):St:=⟨(aM (x4::bI (aW (aM (aG []))))),m⟩
def Gm (x0 bL be cw:AV) (m:af) (K:KT):OM:=ck 18 (b9 (c2 (c2 (aB f18)))) 4 (x0::aW (aM (aK (bL::be::cw::bI [])))) m K
def KZ (x0 x5 x6 x7 bL be cw:AV) (m:af):St:=⟨(x0::aM (x5::x6::x7::aM (aK (aG (bL::be::cw::bI []))))),m⟩
def G0 (x4:AV) (m:af):St:=⟨(aM (x4::bI (aW (aM (aG []))))),m⟩
def Gn (x0 x5 x6 x7 bL be cw bQ bU cD:AV) (m:af) (K:KT):OM:=ck 18 (b9 (kY (kY (pE (aB f18))))) 8 (x0::aM (x5::x6::x7::aM (aK (aG (bL::be::cw::aM (bQ::bU::cD::bC (aW (aG [])))))))) m K
abbrev qdj (K:KT):KT:=bE 18 (c2 (c2 (c2 (aB f18)))) K
abbrev qdk (K:KT):KT:=bz 0 (qdj K)
abbrev Ke (K:KT):KT:=(qdk K)
abbrev qdn (K:KT):KT:=bE 18 (kZ (mD (c2 (aB f18)))) (nQ 18 (b9 (c2 (c2 (aB f18)))) 4 K)
abbrev qdo (K:KT):KT:=bz 1 (qdn K)
abbrev qdp (K:KT):KT:=bE 18 (kZ (yb (mD (c2 (aB f18))))) (qdo K)
abbrev qdq (K:KT):KT:=bz 2 (qdp K)
abbrev Fv (K:KT):KT:=(qdq K)
theorem T18 (a0 a1:AV) (m:af):AC ae 18 [a0,a1] m=(aO false a1).bind fun v1=>(aO false a0).bind fun v2=>(ag .other .neq v1 v2).bind fun v3=>aw v3 (some ((.bool false),m)) ((aO false a1).bind fun v4=>Gm a0 a1 v4 (.int .i64 0) m (Ke (aE ae.P f18.results.toList))):=
(bm ae 18 [a0,a1] m (fn:=f18) (c:=aB f18) qiO rfl).trans (by kernel_rfl)
theorem QO (x0 bL be cw:AV) (m:af) (K:KT):Gm x0 bL be cw m K=(ag .other .lss cw be).bind fun v1=>aw v1 ((aH none bL cw).bind fun v2=>(aj none m v2).bind fun v3=>(aO false v3).bind fun v4=>Gn x0 cw v3 (.int .i64 0) bL be cw v3 v4 (.int .i64 0) m (Fv K)) (K (.exit 0) (KY m)):=
(cg (bW _) _ _ _).trans (by kernel_rfl)
theorem QP (x0 x5 x6 x7 bL be cw bQ bU cD:AV) (m:af) (K:KT):Gn x0 x5 x6 x7 bL be cw bQ bU cD m K=(ag .other .lss cD bU).bind fun v1=>aw v1 ((aH none bQ cD).bind fun v2=>(aj none m v2).bind fun v3=>(ag .other .lss v3 (.int .i64 0)).bind fun v4=>aw v4 (K .ret (G0 (.bool false) m)) ((ag .other .gtr v3 (.int .i64 1000)).bind fun v5=>aw v5 (K .ret (G0 (.bool false) m)) ((ag .other .add x7 v3).bind fun v6=>(ag .other .add cD (.int .i64 1)).bind fun v7=>Gn x0 x5 x6 v6 bL be cw bQ bU v7 m K))) (K (.exit 2) (KZ x0 x5 x6 x7 bL be cw m)):=
(cg (bW _) _ _ _).trans (by kernel_rfl)
theorem qdm (m:af):Ke (aE ae.P f18.results.toList) (.exit 0) (KY  m)=some ((.bool true),m):=by kernel_rfl
theorem qdl (x4:AV) (m:af):Ke (aE ae.P f18.results.toList) .ret (CP x4 m)=some (x4,m):=by kernel_rfl
theorem qds (x0 x5 x6 x7 bL be cw:AV) (m:af) (K:KT):Fv K (.exit 2) (KZ x0 x5 x6 x7 bL be cw m)=(aO false x6).bind fun v1=>(aH none x0 x5).bind fun v2=>(aj none m v2).bind fun v3=>(ag .other .neq v1 v3).bind fun v4=>aw v4 (K .ret (CP (.bool false) m)) ((ag .other .eql x7 (.int .i64 0)).bind fun v5=>aw v5 (K .ret (CP (.bool false) m)) ((ag .other .add cw (.int .i64 1)).bind fun v6=>Gm x0 bL be v6 m K)):=by kernel_rfl
theorem qdr (x4:AV) (m:af) (K:KT):Fv K .ret (G0 x4 m)=K .ret (CP x4 m):=by kernel_rfl
def RA (x3:AV) (m:af):St:=⟨(aK (aG (x3::aW (aM (aK []))))),m⟩
def Gu (x0 x3 x4:AV) (m:af) (K:KT):OM:=ck 54 (b9 (c2 (c2 (aB f54)))) 3 (x0::aK (x3::x4::aW (aM (aG [])))) m K
abbrev qd9 (K:KT):KT:=bE 54 (c2 (c2 (c2 (aB f54)))) K
abbrev qea (K:KT):KT:=bz 0 (qd9 K)
abbrev Kh (K:KT):KT:=(qea K)
theorem T54 (a0:AV) (m:af):AC ae 54 [a0] m=Gu a0 au (.int .i64 0) m (Kh (aE ae.P f54.results.toList)):=
(bm ae 54 [a0] m (fn:=f54) (c:=aB f54) qji rfl).trans (by kernel_rfl)
theorem Q2 (x0 x3 x4:AV) (m:af) (K:KT):Gu x0 x3 x4 m K=(aD (AP ae) none m 12 [x0,(.int .i64 1048576)]).bind fun r1=>(ag .other .lss x4 r1.1).bind fun v2=>aw v2 ((AC ae 115 [x0,x4] r1.2).bind fun r3=>(dO none [r3.1]).bind fun v4=>(b8 none true 22 none 24 r3.2 x3 v4).bind fun r5=>(ag .other .add x4 (.int .i64 1)).bind fun v6=>Gu x0 r5.1 v6 r5.2 K) (K (.exit 0) (RA x3 r1.2)):=
(cg (bW _) _ _ _).trans (by kernel_rfl)
theorem qeb (x3:AV) (m:af):Kh (aE ae.P f54.results.toList) (.exit 0) (RA x3 m)=some (x3,m):=by kernel_rfl
def K8 (x4 x5:AV) (m:af):St:=⟨(aM (x4::x5::bI (aW (aK [])))),m⟩
def Cv (x1 x4 x5 aV bL be:AV) (m:af) (K:KT):OM:=ck 55 (b9 (c2 (c2 (aB f55)))) 3 (aG (x1::aK (x4::x5::aW (aV::bL::be::bC (aW (aM (aK (aG [])))))))) m K
def K9 (x1 x4 x5 x6 x7 x8 aV bL be:AV) (m:af):St:=⟨(aG (x1::aK (x4::x5::x6::x7::x8::aM (aG (aV::bL::be::bC (aW (aM (aK (aG []))))))))),m⟩
def Cw (x1 x4 x5 x6 x7 x8 aV bL be iI bQ bU:AV) (m:af) (K:KT):OM:=ck 55 (b9 (kY (kY (pE (aB f55))))) 7 (aG (x1::aK (x4::x5::x6::x7::x8::aM (aG (aV::bL::be::aM (iI::bQ::bU::bC (aW []))))))) m K
abbrev qec (K:KT):KT:=bE 55 (c2 (c2 (c2 (aB f55)))) K
abbrev qed (K:KT):KT:=bz 0 (qec K)
abbrev FF (K:KT):KT:=(qed K)
abbrev qef (K:KT):KT:=bE 55 (kZ (mD (c2 (aB f55)))) (nQ 55 (b9 (c2 (c2 (aB f55)))) 3 K)
abbrev qeg (K:KT):KT:=bz 1 (qef K)
abbrev qeh (K:KT):KT:=bE 55 (kZ (yb (mD (c2 (aB f55))))) (qeg K)
abbrev qei (K:KT):KT:=bz 2 (qeh K)
abbrev FG (K:KT):KT:=(qei K)
theorem T55 (a0 a1:AV) (m:af):AC ae 55 [a0,a1] m=(aD (AP ae) none (az none m (.obj true [(.bool false),au,au])).2 23 []).bind fun r1=>(aL (some 3) (az none r1.2 (.obj true [(.bool false),au,au])).2 (.ptr (az none r1.2 .resv).1 0) r1.1).bind fun m2=>(aO false a0).bind fun v3=>Cv a1 (.ptr (az none m .resv).1 0) (.ptr (az none r1.2 .resv).1 0) a0 v3 (.int .i64 0) m2 (FF (aE ae.P f55.results.toList)):=
(bm ae 55 [a0,a1] m (fn:=f55) (c:=aB f55) qjj rfl).trans (by kernel_rfl)
theorem Q3 (x1 x4 x5 aV bL be:AV) (m:af) (K:KT):Cv x1 x4 x5 aV bL be m K=(ag .other .lss be bL).bind fun v1=>aw v1 ((aH none aV be).bind fun v2=>(aj none m v2).bind fun v3=>(aO false v3).bind fun v4=>Cw x1 x4 x5 be v3 (.int .i64 0) aV bL be v3 v4 (.int .i64 0) m (FG K)) (K (.exit 0) (K8 x4 x5 m)):=
(cg (bW _) _ _ _).trans (by kernel_rfl)
theorem Q4 (x1 x4 x5 x6 x7 x8 aV bL be iI bQ bU:AV) (m:af) (K:KT):Cw x1 x4 x5 x6 x7 x8 aV bL be iI bQ bU m K=(ag .other .lss bU bQ).bind fun v1=>aw v1 ((aH none iI bU).bind fun v2=>(aj none m v2).bind fun v3=>(ag .other .add x8 v3).bind fun v4=>(ag .other .add bU (.int .i64 1)).bind fun v5=>Cw x1 x4 x5 x6 x7 v4 aV bL be iI bQ v5 m K) (K (.exit 2) (K9 x1 x4 x5 x6 x7 x8 aV bL be m)):=
(cg (bW _) _ _ _).trans (by kernel_rfl)
theorem qee (x4 x5:AV) (m:af):FF (aE ae.P f55.results.toList) (.exit 0) (K8 x4 x5 m)=(aj (some 3) m x5).bind fun v1=>(aL (some 3) m x4 v1).bind fun m2=>(aj (some 3) m2 x4).bind fun v3=>some (v3,m2):=by kernel_rfl
theorem qej (x1 x4 x5 x6 x7 x8 aV bL be:AV) (m:af) (K:KT):FG K (.exit 2) (K9 x1 x4 x5 x6 x7 x8 aV bL be m)=(aH none x1 x6).bind fun v1=>(aj none m v1).bind fun v2=>(aH none x7 v2).bind fun v3=>(aj none m v3).bind fun v4=>(aD (AP ae) none m 116 [v4,x8]).bind fun r5=>(aY r5.1 0).bind fun v6=>(aY r5.1 1).bind fun v7=>(aL (some 3) (az none r5.2 (.obj true [(.bool false),au,au])).2 (.ptr (az none r5.2 .resv).1 0) v6).bind fun m8=>(aj (some 3) m8 x5).bind fun v9=>(aj (some 3) m8 (.ptr (az none r5.2 .resv).1 0)).bind fun v10=>(aD (AP ae) none m8 117 [v9,v10]).bind fun je=>(aL (some 3) je.2 x5 je.1).bind fun m12=>(ag .other .add be (.int .i64 1)).bind fun bu=>Cv x1 x4 x5 aV bL bu m12 K:=by kernel_rfl
def Rk (x5:AV) (m:af):St:=⟨(aM (aG (x5::bC (aW (aK (aG [])))))),m⟩
def FQ (x0 x1 x5 x6:AV) (m:af) (K:KT):OM:=ck 115 (b9 (c2 (c2 (aB f115)))) 3 (x0::x1::aK (aG (x5::x6::bC (aW (aK []))))) m K
abbrev qaG (K:KT):KT:=bE 115 (c2 (c2 (c2 (aB f115)))) K
abbrev qaH (K:KT):KT:=bz 0 (qaG K)
abbrev JP (K:KT):KT:=(qaH K)
theorem qfI (a0 a1:AV) (m:af):AC ae 115 [a0,a1] m=(aO false a0).bind fun v1=>(iP none 3 none (.int .i64 0) 8 m v1 v1).bind fun r2=>(aO false a0).bind fun v3=>(ag .other .sub v3 (.int .i64 1)).bind fun v4=>FQ a0 a1 r2.1 v4 r2.2 (JP (aE ae.P f115.results.toList)):=
(bm ae 115 [a0,a1] m (fn:=f115) (c:=aB f115) qh3 rfl).trans (by kernel_rfl)
theorem Qd (x0 x1 x5 x6:AV) (m:af) (K:KT):FQ x0 x1 x5 x6 m K=(ag .other .geq x6 (.int .i64 0)).bind fun v1=>aw v1 ((aH none x0 x6).bind fun v2=>(aj none m v2).bind fun v3=>(ag .other .rem x1 v3).bind fun v4=>(aH none x5 x6).bind fun v5=>(aL none m v5 v4).bind fun m6=>(aH none x0 x6).bind fun v7=>(aj none m6 v7).bind fun v8=>(ag .other .quo x1 v8).bind fun v9=>(ag .other .sub x6 (.int .i64 1)).bind fun v10=>FQ x0 v9 x5 v10 m6 K) (K (.exit 0) (Rk x5 m)):=
(cg (bW _) _ _ _).trans (by kernel_rfl)
theorem qaI (x5:AV) (m:af):JP (aE ae.P f115.results.toList) (.exit 0) (Rk x5 m)=some (x5,m):=by kernel_rfl
def Rr (m:af):St:=⟨(bC (aW (aK []))),m⟩
def RH (x4:AV) (m:af):St:=⟨(aM (x4::bC (aM (aG [])))),m⟩
def Gd (x0 x1 aN aX:AV) (m:af) (K:KT):OM:=ck 144 (b9 (c2 (c2 (aB f144)))) 4 (x0::x1::aW (aK (aN::aX::aW (aM [])))) m K
abbrev qbZ (K:KT):KT:=bE 144 (c2 (c2 (c2 (aB f144)))) K
abbrev qb0 (K:KT):KT:=bz 0 (qbZ K)
abbrev Fp (K:KT):KT:=(qb0 K)
theorem qf1 (a0 a1:AV) (m:af):AC ae 144 [a0,a1] m=(aO false a0).bind fun v1=>(aO false a1).bind fun v2=>(ag .other .neq v1 v2).bind fun v3=>aw v3 (some ((.bool false),m)) ((aO false a0).bind fun v4=>Gd a0 a1 v4 (.int .i64 0) m (Fp (aE ae.P f144.results.toList))):=
(bm ae 144 [a0,a1] m (fn:=f144) (c:=aB f144) qir rfl).trans (by kernel_rfl)
theorem Qw (x0 x1 aN aX:AV) (m:af) (K:KT):Gd x0 x1 aN aX m K=(ag .other .lss aX aN).bind fun v1=>aw v1 ((aH none x0 aX).bind fun v2=>(aj none m v2).bind fun v3=>(aH none x1 aX).bind fun v4=>(aj none m v4).bind fun v5=>(ag .other .neq v3 v5).bind fun v6=>aw v6 (K .ret (RH (.bool false) m)) ((ag .other .add aX (.int .i64 1)).bind fun v7=>Gd x0 x1 aN v7 m K)) (K (.exit 0) (Rr m)):=
(cg (bW _) _ _ _).trans (by kernel_rfl)
theorem qb2 (m:af):Fp (aE ae.P f144.results.toList) (.exit 0) (Rr  m)=some ((.bool true),m):=by kernel_rfl
theorem qb1 (x4:AV) (m:af):Fp (aE ae.P f144.results.toList) .ret (RH x4 m)=some (x4,m):=by kernel_rfl
def Rq (m:af):St:=⟨(bC (aG [])),m⟩
def RG (x2:AV) (m:af):St:=⟨(aK (x2::aW (aM (aK [])))),m⟩
def Gc (x0 x5 x6 x7:AV) (m:af) (K:KT):OM:=ck 143 (b9 (c2 (aB f143))) 2 (x0::aM (x5::x6::x7::aW (aG []))) m K
abbrev qbV (K:KT):KT:=bE 143 (c2 (c2 (aB f143))) K
abbrev qbW (K:KT):KT:=bz 0 (qbV K)
abbrev Fo (K:KT):KT:=(qbW K)
theorem qf0 (a0:AV) (m:af):AC ae 143 [a0] m=(aO false a0).bind fun v1=>Gc a0 a0 v1 (.int .i64 0) m (Fo (aE ae.P f143.results.toList)):=
(bm ae 143 [a0] m (fn:=f143) (c:=aB f143) qiq rfl).trans (by kernel_rfl)
theorem Qv (x0 x5 x6 x7:AV) (m:af) (K:KT):Gc x0 x5 x6 x7 m K=(ag .other .lss x7 x6).bind fun v1=>aw v1 ((aH none x5 x7).bind fun v2=>(aj none m v2).bind fun v3=>(aH none x0 (.int .i64 0)).bind fun v4=>(aj none m v4).bind fun v5=>(ag .other .neq v3 v5).bind fun v6=>aw v6 (K .ret (RG (.bool false) m)) ((ag .other .add x7 (.int .i64 1)).bind fun v7=>Gc x0 x5 x6 v7 m K)) (K (.exit 0) (Rq m)):=
(cg (bW _) _ _ _).trans (by kernel_rfl)
theorem qbY (m:af):Fo (aE ae.P f143.results.toList) (.exit 0) (Rq  m)=some ((.bool true),m):=by kernel_rfl
theorem qbX (x2:AV) (m:af):Fo (aE ae.P f143.results.toList) .ret (RG x2 m)=some (x2,m):=by kernel_rfl
theorem T31 (a0 a1:AV) (m:af):AC ae 31 [a0,a1] m=(gm (.agg [au,au]) [(0,none,a0)]).bind fun v1=>(dI none (some 2) m v1).bind fun r2=>(AC ae 91 [r2.1,(.int .i64 0),a1] r2.2).bind fun r3=>(iG r2.1).bind fun v4=>(aT 1 v4).bind fun v5=>(aj none r3.2 v5).bind fun v6=>some (v6,r3.2):=
(bm ae 31 [a0,a1] m (fn:=f31) (c:=aB f31) qi4 rfl).trans (by kernel_rfl)
def Lk (x0 x1 x2 x7 x8 x9 aF:AV) (m:af):St:=⟨(x0::x1::x2::aM (x7::x8::x9::aF::bA (bI (bC (aM (aG [])))))),m⟩
def zZ (x0 x1 x2 x7 x8 x9 aF aZ:AV) (m:af) (K:KT):OM:=ck 91 (b9 (kZ (pE (aB f91)))) 7 (x0::x1::x2::aM (x7::x8::x9::aF::aZ::bA (bI (bC (aM []))))) m K
def Li (x0 x7:AV) (m:af):St:=⟨(x0::aM (aK (x7::bA (bI (bC (aW [])))))),m⟩
def Cy (x0 x1 x2 x7 x8 aN:AV) (m:af) (K:KT):OM:=ck 91 (uO (bo (Dj (c2 (c2 (aB f91)))))) 14 (x0::x1::x2::aM (x7::x8::aK (aG (aN::bA (bI (bC (aK (aG [])))))))) m K
def Lj (x0 x7:AV) (m:af):St:=⟨(x0::aM (aK (x7::bA (bI (bC (aW [])))))),m⟩
def RJ (x6:AV) (m:af):St:=⟨(aM (aK (x6::bA (bI (bC (aW (aG []))))))),m⟩
def uw (x0 x7 EZ E0 zB:AV) (m:af) (K:KT):OM:=ck 91 (b9 (c2 (c2 (c2 (aB f91))))) 18 (x0::aM (aK (x7::bA (bC (aW (aM (EZ::E0::zB::bC (aW (aG []))))))))) m K
abbrev qe2 (K:KT):KT:=bE 91 (c2 (c2 (c2 (aB f91)))) K
abbrev qe3 (K:KT):KT:=bE 91 (bo (mD (c2 (aB f91)))) (qe2 K)
abbrev qe4 (K:KT):KT:=bz 0 (qe3 K)
abbrev FK (K:KT):KT:=(qe4 K)
abbrev qeY (K:KT):KT:=bE 91 (bo (aB f91)) K
abbrev qeZ (K:KT):KT:=bz 4 (qeY K)
abbrev tm (K:KT):KT:=(qeZ K)
abbrev qeV (K:KT):KT:=bE 91 (c2 (c2 (c2 (aB f91)))) K
abbrev qeW (K:KT):KT:=bz 2 (qeV K)
abbrev Cc (K:KT):KT:=(qeW K)
theorem T91 (a0 a1 a2:AV) (m:af):AC ae 91 [a0,a1,a2] m=(aH none a2 (.int .i64 0)).bind fun v1=>(aj none m v1).bind fun v2=>(gm (.agg [(.int .i64 0),au,(.int .i64 0)]) [(0,none,(.int .i64 (-1))),(2,none,v2)]).bind fun v3=>(aL (some 3) (az none m (.obj true [(.int .i64 0),au,(.int .i64 0)])).2 (.ptr (az none m .resv).1 0) v3).bind fun m4=>(aD (AP ae) none m4 143 [a2]).bind fun r5=>(jN .not r5.1).bind fun v6=>aw v6 ((aO false a2).bind fun v7=>(iG a0).bind fun v8=>(aT 0 v8).bind fun v9=>(aj none r5.2 v9).bind fun v10=>(aH none v10 a1).bind fun v11=>(aj none r5.2 v11).bind fun v12=>(ag .other .quo v7 v12).bind fun bu=>(nS none a2 none (some bu) none).bind fun bq=>zZ a0 a1 a2 (.ptr (az none m .resv).1 0) bu bq (.bool true) (.int .i64 1) r5.2 (FK (aE ae.P f91.results.toList))) ((iG a0).bind fun br=>(aT 1 br).bind fun bT=>(aj none r5.2 bT).bind fun bH=>(aO false bH).bind fun fI=>uw a0 (.ptr (az none m .resv).1 0) bH fI (.int .i64 0) r5.2 (tm (aE ae.P f91.results.toList))):=
(bm ae 91 [a0,a1,a2] m (fn:=f91) (c:=aB f91) qjH rfl).trans (by kernel_rfl)
theorem Ku (x0 x1 x2 x7 x8 x9 aF aZ:AV) (m:af) (K:KT):zZ x0 x1 x2 x7 x8 x9 aF aZ m K=(iG x0).bind fun v1=>(aT 0 v1).bind fun v2=>(aj none m v2).bind fun v3=>(aH none v3 x1).bind fun v4=>(aj none m v4).bind fun v5=>(ag .other .lss aZ v5).bind fun v6=>aw v6 (aw aF ((ag .other .mul aZ x8).bind fun v7=>(ag .other .add aZ (.int .i64 1)).bind fun v8=>(ag .other .mul v8 x8).bind fun v9=>(nS none x2 (some v7) (some v9) none).bind fun v10=>(aD (AP ae) none m 144 [v10,x9]).bind fun je=>(ag .other .add aZ (.int .i64 1)).bind fun v12=>zZ x0 x1 x2 x7 x8 x9 je.1 v12 je.2 K) ((ag .other .add aZ (.int .i64 1)).bind fun bu=>zZ x0 x1 x2 x7 x8 x9 (.bool false) bu m K)) (K (.exit 0) (Lk x0 x1 x2 x7 x8 x9 aF m)):=
(cg (bW _) _ _ _).trans (by kernel_rfl)
theorem Rg (x0 x1 x2 x7 x8 aN:AV) (m:af) (K:KT):Cy x0 x1 x2 x7 x8 aN m K=(iG x0).bind fun v1=>(aT 0 v1).bind fun v2=>(aj none m v2).bind fun v3=>(aH none v3 x1).bind fun v4=>(aj none m v4).bind fun v5=>(ag .other .lss aN v5).bind fun v6=>aw v6 ((aT 1 x7).bind fun v7=>(aj none m v7).bind fun v8=>(ag .other .add x1 (.int .i64 1)).bind fun v9=>(ag .other .mul aN x8).bind fun v10=>(ag .other .add aN (.int .i64 1)).bind fun v11=>(ag .other .mul v11 x8).bind fun v12=>(nS none x2 (some v10) (some v12) none).bind fun bu=>(AC ae 91 [x0,v9,bu] m).bind fun jK=>tW ((aj none jK.2 v7).bind (fun v=>some (v,jK.2))=some (v8,jK.2)) ((dO none [jK.1]).bind fun br=>(b8 none false 3 none 8 jK.2 v8 br).bind fun hZ=>(aT 1 x7).bind fun bH=>(aL none hZ.2 bH hZ.1).bind fun m18=>(ag .other .add aN (.int .i64 1)).bind fun dG=>Cy x0 x1 x2 x7 x8 dG m18 K)) (K (.exit 2) (Li x0 x7 m)):=
(cg (bW _) _ _ _).trans (by kernel_rfl)
theorem Rh (x0 x7 EZ E0 zB:AV) (m:af) (K:KT):uw x0 x7 EZ E0 zB m K=(ag .other .lss zB E0).bind fun v1=>aw v1 ((aH (some 3) EZ zB).bind fun v2=>(aj (some 3) m v2).bind fun v3=>(aL (some 3) (az none m (.obj true [(.int .i64 0),au,(.int .i64 0)])).2 (.ptr (az none m .resv).1 0) v3).bind fun m4=>(aj (some 3) m4 x7).bind fun v5=>(aj (some 3) m4 (.ptr (az none m .resv).1 0)).bind fun v6=>(aD (AP ae) none m4 142 [v5,v6]).bind fun r7=>aw r7.1 (K .ret (RJ zB r7.2)) ((ag .other .add zB (.int .i64 1)).bind fun v8=>uw x0 x7 EZ E0 v8 r7.2 K)) (K (.exit 4) (Lj x0 x7 m)):=
(cg (bW _) _ _ _).trans (by kernel_rfl)
theorem qe5 (x0 x1 x2 x7 x8 x9 aF:AV) (m:af):FK (aE ae.P f91.results.toList) (.exit 0) (Lk x0 x1 x2 x7 x8 x9 aF m)=aw aF ((ag .other .add x1 (.int .i64 1)).bind fun v1=>(AC ae 91 [x0,v1,x9] m).bind fun r2=>some (r2.1,r2.2)) ((gm (.agg [(.int .i64 0),au,(.int .i64 0)]) [(0,none,x1)]).bind fun v3=>(aL (some 3) m x7 v3).bind fun m4=>Cy x0 x1 x2 x7 x8 (.int .i64 0) m4 (Cc (aE ae.P f91.results.toList))):=by kernel_rfl
theorem qe1 (x0 x7:AV) (m:af):tm (aE ae.P f91.results.toList) (.exit 4) (Lj x0 x7 m)=(iG x0).bind fun v1=>(aT 1 v1).bind fun v2=>(aj none (cU m 1) v2).bind fun v3=>(aj (some 3) (cU m 1) x7).bind fun v4=>(dO (some 3) [v4]).bind fun v5=>(b8 (some m.length) false 146 (some 3) 40 (cU m 1) v3 v5).bind fun r6=>(iG x0).bind fun v7=>(aT 1 v7).bind fun v8=>(aL none r6.2 v8 r6.1).bind fun m9=>(iG x0).bind fun v10=>(aT 1 v10).bind fun v11=>(aj none m9 v11).bind fun v12=>(aO false v12).bind fun bu=>(ag .other .sub bu (.int .i64 1)).bind fun bq=>some (bq,m9):=by kernel_rfl
theorem qe0 (x6:AV) (m:af):tm (aE ae.P f91.results.toList) .ret (RJ x6 m)=some (x6,m):=by kernel_rfl
theorem qeX (x0 x7:AV) (m:af):Cc (aE ae.P f91.results.toList) (.exit 2) (Li x0 x7 m)=(iG x0).bind fun v1=>(aT 1 v1).bind fun v2=>(aj none m v2).bind fun v3=>(aO false v3).bind fun v4=>uw x0 x7 v3 v4 (.int .i64 0) m (tm (aE ae.P f91.results.toList)):=by kernel_rfl
end
end Go.Ab
namespace Go.Ab
noncomputable section
open Go.Proofs.Tryz
theorem T41 (a0 a1:AV) (m:af):AC ae 41 [a0,a1] m=(AC ae 104 [a0,a1,(.fn 106 [])] m).bind fun r1=>(aY r1.1 0).bind fun v2=>(aY r1.1 1).bind fun v3=>some ((.tup [v2,v3]),r1.2):=
(bm ae 41 [a0,a1] m (fn:=f41) (c:=aB f41) qi8 rfl).trans (by kernel_rfl)
def Ry (x7:AV) (m:af):St:=⟨(aM (aK (aG (x7::bA (aM (aG [])))))),m⟩
def Gt (x0 x6 x7 bQ bU cD:AV) (m:af) (K:KT):OM:=ck 43 (b9 (bo (c2 (aB f43)))) 8 (x0::aM (aG (x6::x7::aW (aM (aK (bQ::bU::cD::bI (bC (aM [])))))))) m K
def K2 (x0 x6 x7 aF bQ bU cD:AV) (m:af):St:=⟨(x0::aM (aG (x6::x7::aK (aF::aW (aK (aG (bQ::bU::cD::bI (bC (aM []))))))))),m⟩
def Cp (x0 x6 x7 aF bQ bU cD rL rM qi:AV) (m:af) (K:KT):OM:=ck 43 (b9 (kZ (yb (mD (bo (aB f43)))))) 13 (x0::aM (aG (x6::x7::aK (aF::aW (aK (aG (bQ::bU::cD::bC (aW (aM (aK (aG (rL::rM::qi::bC (aK []))))))))))))) m K
abbrev qdJ (K:KT):KT:=bE 43 (bo (c2 (c2 (aB f43)))) K
abbrev qdK (K:KT):KT:=bz 0 (qdJ K)
abbrev Ca (K:KT):KT:=(qdK K)
abbrev qdE (K:KT):KT:=bE 43 (kZ (mD (bo (aB f43)))) (nQ 43 (b9 (bo (c2 (aB f43)))) 8 K)
abbrev qdF (K:KT):KT:=bz 1 (qdE K)
abbrev qdG (K:KT):KT:=bE 43 (bo (uO (b9 (bo (c2 (aB f43)))))) (qdF K)
abbrev qdH (K:KT):KT:=bz 2 (qdG K)
abbrev B9 (K:KT):KT:=(qdH K)
theorem T43 (a0 a1:AV) (m:af):AC ae 43 [a0,a1] m=(AC ae 80 [a0] m).bind fun r1=>aw r1.1 (some ((.tup [au,(.int .i64 4)]),r1.2)) ((AC ae 81 [a0,a1] r1.2).bind fun r2=>(jN .not r2.1).bind fun v3=>aw v3 (some ((.tup [au,(.int .i64 1)]),r2.2)) ((AC ae 65 [a0,a1] (az none r2.2 (.mp (.int .i64) [])).2).bind fun r4=>(aO false r4.1).bind fun v5=>Gt a0 (.mref (az none r2.2 .resv).1) au r4.1 v5 (.int .i64 0) r4.2 (Ca (aE ae.P f43.results.toList)))):=
(bm ae 43 [a0,a1] m (fn:=f43) (c:=aB f43) qi9 rfl).trans (by kernel_rfl)
theorem QV (x0 x6 x7 bQ bU cD:AV) (m:af) (K:KT):Gt x0 x6 x7 bQ bU cD m K=(ag .other .lss cD bU).bind fun v1=>aw v1 ((aH none bQ cD).bind fun v2=>(aj none m v2).bind fun v3=>(kQ (.int .i64) m x6 v3 cD).bind fun m4=>(iG x0).bind fun v5=>(aT 1 v5).bind fun v6=>(aj none (cU m4 1) v6).bind fun v7=>(aH (some 3) v7 v3).bind fun v8=>(aT 0 v8).bind fun v9=>(aj none (cU m4 1) v9).bind fun v10=>(iG x0).bind fun v11=>(aT 1 v11).bind fun v12=>(aj none (cU m4 1) v12).bind fun bu=>(aH (some 3) bu v3).bind fun bq=>(aT 2 bq).bind fun br=>(aj none (cU m4 1) br).bind fun bT=>(gm (.agg [(.int .i64 0),au,(.int .i64 0)]) [(0,none,v10),(2,none,bT)]).bind fun bH=>(aL (some 3) (az (some m4.length) (cU m4 1) (.obj true [(.int .i64 0),au,(.int .i64 0)])).2 (.ptr (az (some m4.length) (cU m4 1) .resv).1 0) bH).bind fun m18=>(iG x0).bind fun dG=>(aT 1 dG).bind fun v20=>(aj none m18 v20).bind fun v21=>(aH (some 3) v21 v3).bind fun v22=>(aT 1 v22).bind fun v23=>(aj none m18 v23).bind fun v24=>(aO false v24).bind fun v25=>Cp x0 x6 x7 (.ptr (az (some m4.length) (cU m4 1) .resv).1 0) bQ bU cD v24 v25 (.int .i64 0) m18 (B9 K)) (K (.exit 0) (Ry x7 m)):=
(cg (bW _) _ _ _).trans (by kernel_rfl)
theorem QU (x0 x6 x7 aF bQ bU cD rL rM qi:AV) (m:af) (K:KT):Cp x0 x6 x7 aF bQ bU cD rL rM qi m K=(ag .other .lss qi rM).bind fun v1=>aw v1 ((aH none rL qi).bind fun v2=>(aj none m v2).bind fun v3=>(aT 1 aF).bind fun v4=>(aj none m v4).bind fun v5=>(o8 (.int .i64) (.int .i64 0) m x6 v3).bind fun q6=>(dO none [q6.1]).bind fun v7=>(b8 none false 3 none 8 m v5 v7).bind fun r8=>(aT 1 aF).bind fun v9=>(aL none r8.2 v9 r8.1).bind fun m10=>(ag .other .add qi (.int .i64 1)).bind fun v11=>Cp x0 x6 x7 aF bQ bU cD rL rM v11 m10 K) (K (.exit 2) (K2 x0 x6 x7 aF bQ bU cD m)):=
(cg (bW _) _ _ _).trans (by kernel_rfl)
theorem qdL (x7:AV) (m:af):Ca (aE ae.P f43.results.toList) (.exit 0) (Ry x7 m)=some ((.tup [x7,(.int .i64 0)]),m):=by kernel_rfl
theorem qdI (x0 x6 x7 aF bQ bU cD:AV) (m:af) (K:KT):B9 K (.exit 2) (K2 x0 x6 x7 aF bQ bU cD m)=(aj (some 3) m aF).bind fun v1=>(dO (some 3) [v1]).bind fun v2=>(b8 none false 74 (some 3) 40 m x7 v2).bind fun r3=>(ag .other .add cD (.int .i64 1)).bind fun v4=>Gt x0 x6 r3.1 bQ bU v4 r3.2 K:=by kernel_rfl
theorem T44 (a0 a1:AV) (m:af):AC ae 44 [a0,a1] m=(dI none none m a0).bind fun r1=>(dI none none r1.2 a1).bind fun r2=>(aj none r2.2 r1.1).bind fun v3=>(AC ae 80 [v3] r2.2).bind fun r4=>aw r4.1 (some ((.tup [(.int .i64 0),(.int .i64 4)]),r4.2)) ((aj none r4.2 r1.1).bind fun v5=>(iG v5).bind fun v6=>(aT 0 v6).bind fun v7=>(aj none r4.2 v7).bind fun v8=>(aj none r4.2 r2.1).bind fun v9=>(aD (AP ae) (some r4.2.length) r4.2 107 [v8,v9]).bind fun hJ=>(jN .not hJ.1).bind fun v11=>aw v11 (some ((.tup [(.int .i64 0),(.int .i64 1)]),hJ.2)) ((aj none hJ.2 r1.1).bind fun v12=>(AC ae 84 [v12,(.fn 108 [r2.1,r1.1])] hJ.2).bind fun fK=>(aY fK.1 0).bind fun bq=>(aY fK.1 1).bind fun br=>some ((.tup [bq,br]),fK.2))):=
(bm ae 44 [a0,a1] m (fn:=f44) (c:=aB f44) qja rfl).trans (by kernel_rfl)
def GI (x8:AV) (m:af):St:=⟨(aW (x8::bI (aW []))),m⟩
def vN (x0 x2 x8 iI bQ bU:AV) (m:af) (K:KT):OM:=ck 104 (b9 (bo (aB f104))) 7 (x0::aG (x2::aM (aG (x8::aW (aM (iI::bQ::bU::bC (aW (aG [])))))))) m K
abbrev qah (K:KT):KT:=bE 104 (bo (c2 (aB f104))) K
abbrev qai (K:KT):KT:=bz 0 (qah K)
abbrev vL (K:KT):KT:=(qai K)
theorem qfB (a0 a1 a2:AV) (m:af):AC ae 104 [a0,a1,a2] m=(AC ae 80 [a0] m).bind fun r1=>aw r1.1 (some ((.tup [au,(.int .i64 4)]),r1.2)) ((AC ae 81 [a0,a1] r1.2).bind fun r2=>(jN .not r2.1).bind fun v3=>aw v3 (some ((.tup [au,(.int .i64 1)]),r2.2)) ((AC ae 65 [a0,a1] r2.2).bind fun r4=>(aO false r4.1).bind fun v5=>vN a0 a2 au r4.1 v5 (.int .i64 0) r4.2 (vL (aE ae.P f104.results.toList)))):=
(bm ae 104 [a0,a1,a2] m (fn:=f104) (c:=aB f104) qhT rfl).trans (by kernel_rfl)
theorem P8 (x0 x2 x8 iI bQ bU:AV) (m:af) (K:KT):vN x0 x2 x8 iI bQ bU m K=(ag .other .lss bU bQ).bind fun v1=>aw v1 ((aH none iI bU).bind fun v2=>(aj none m v2).bind fun v3=>(iG x0).bind fun v4=>(aT 1 v4).bind fun v5=>(aj none m v5).bind fun v6=>(aH (some 3) v6 v3).bind fun v7=>(aj (some 3) m v7).bind fun v8=>(lH x2).bind fun g9=>j0 ae 104 (AP ae) (AC ae) none g9.1 ([v8]++g9.2) m fun v10 m11=>(aY v10 0).bind fun v12=>(aY v10 1).bind fun bu=>aw bu ((dO none [v12]).bind fun bq=>(b8 none true 3 none 8 m11 x8 bq).bind fun nP=>(ag .other .add bU (.int .i64 1)).bind fun bT=>vN x0 x2 nP.1 iI bQ bT nP.2 K) ((ag .other .add bU (.int .i64 1)).bind fun bH=>vN x0 x2 x8 iI bQ bH m11 K)) (K (.exit 0) (GI x8 m)):=
(cg (bW _) _ _ _).trans (by kernel_rfl)
theorem qaj (x8:AV) (m:af):vL (aE ae.P f104.results.toList) (.exit 0) (GI x8 m)=(zn [x8] m).bind fun r1=>(xZ [x8] r1.2).bind fun r2=>some ((.tup [r2.1,(.int .i64 0)]),r2.2):=by kernel_rfl
end
end Go.Ab
namespace Go.Ab
open Go.Proofs Go.Proofs.Tryz
theorem SV {z1 z2:Bool} {o1 o2:Own} {k1 k2:List Int} (hl:k1.length=k2.length) (iX:k1.length<=100000) (m:af):∀ j i:Nat,i+j=k1.length ->
  Gd (IA z1 o1 k1) (IA z2 o2 k2) (.int .i64 k1.length) (.int .i64 i) m (Fp (aE ae.P f144.results.toList))=some (.bool (decide (k1.drop i=k2.drop i)),m)
 | 0,i,h=>by
  rw[Qw,bh,aa,aA,ai (by omega),jo (by omega),jo (by omega),qb2];rfl
 | j+1,i,h=>by
  have hi:i < k1.length:=by omega
  have hi2:i < k2.length:=by omega
  have ih:=SV (z1:=z1) (z2:=z2) (o1:=o1) (o2:=o2) hl iX m j (i+1) (by omega);rw[Qw,bh,aa,aA,an (by omega),jB hi,aa,fV,aa,jB hi2,aa,fV,aa,jg,aa,aA,kT hi,kT hi2]
  by_cases he:k1[i]=k2[i]
  ·rw[ai (by simpa using he),cB (by omega),aa,ih];congr 3;exact jS.2 (by rw[he];exact ⟨fun e=>by rw[e],fun e=>(List.cons.inj e).2⟩)
  ·rw[an he,qb1];congr 3;exact (dd (fun e=>he (List.cons.inj e).1)).symm
theorem qp5 (z1 z2:Bool) (o1 o2:Own) (k1 k2:List Int) (iX:k1.length<=100000):AP ae 144 [IA z1 o1 k1,IA z2 o2 k2]=some (.bool (decide (k1=k2))):=by
 refine iK (m:=[]) (v:=.bool (decide (k1=k2))) (l:=[]) ?_ rfl rfl;rw[qf1,iE,aa,iE,aa,jg,aa,aA]
 by_cases hl:k1.length=k2.length
 ·rw[ai (by omega),aa,show (AV.int .i64 0)=.int .i64 ((0:Nat):Int) from rfl,SV hl iX [] k1.length 0 (by omega),iR,iR]
 ·rw[an (by omega)];congr 3;exact (dd (fun e=>hl (by rw[e]))).symm
theorem qn9 (z1 z2:Bool) (o1 o2:Own) (k1 k2:List Int) (iX:k1.length<=100000) (m:af):aD (AP ae) none m 144 [IA z1 o1 k1,IA z2 o2 k2]=some (.bool (decide (k1=k2)),m):=by
 rw[fG (mG z1 o1 k1) (mG z2 o2 k2),qp5 z1 z2 _ _ k1 k2 iX];rfl
theorem ZK (z:Bool) (o:Own) (k0:Int) (ks:List Int) (hl:(k0::ks).length<=1000) (m:af):∀ j i:Nat,i+j=(k0::ks).length ->
  Gc (IA z o (k0::ks)) (IA z o (k0::ks)) (.int .i64 (k0::ks).length) (.int .i64 i) m (Fo (aE ae.P f143.results.toList))=some (.bool (((k0::ks).drop i).all fun k=>k == k0),m)
 | 0,i,h=>by
  rw[Qv,bh,aa,aA,ai (by omega),jo (by omega),qbY];rfl
 | j+1,i,h=>by
  have hi:i < (k0::ks).length:=by omega
  rw[Qv,bh,aa,aA,an (by omega),jB hi,aa,fV,aa,Ea (by simp),aa,fV,aa,jg,aa,aA,kT hi,n0]
  by_cases he:(k0::ks)[i]=k0
  ·rw[ai (by simpa using he),cB (by omega),aa,ZK z o k0 ks hl m j (i+1) (by omega),show ((k0::ks)[i] == k0)=true by simpa using he,iL]
  ·rw[an (by simpa using he),qbX,show ((k0::ks)[i] == k0)=false by simpa using he,lY]
theorem qp4 (z:Bool) (o:Own) (ks:List Int) (hne:ks≠[]) (hl:ks.length<=1000):AP ae 143 [IA z o ks]=some (.bool (ks.all fun k=>k == ks.headD 0)):=by
 obtain ⟨k0,ks,rfl⟩:=List.exists_cons_of_ne_nil hne;refine iK (m:=[]) (v:=.bool ((k0::ks).all fun k=>k == k0)) (l:=[]) ?_ rfl rfl;rw[qf0,iE,aa,show (AV.int .i64 0)=.int .i64 ((0:Nat):Int) from rfl,ZK z o k0 ks hl [] (k0::ks).length 0 (by omega),iR]
theorem qn8 (z:Bool) (o:Own) (ks:List Int) (hne:ks≠[]) (hl:ks.length<=1000) (m:af):aD (AP ae) none m 143 [IA z o ks]=some (.bool (ks.all fun k=>k == ks.headD 0),m):=by
 rw[cJ (mG z o ks),qp4 z _ ks hne hl];rfl
theorem V5 {a b:Nat->Nat}:∀ (r:List Int) (v:Nat),(∀ w,v<=w->a w=b w)->jc r v a=jc r v b
 | [],_,_=>rfl
 | n::r,v,h=>by rw[jc,jc,h v (aQ _),V5 r (v+1) fun w hw=>h w (by omega)]
def jx (cs:List Int):Nat->Nat:=fun v=>(cs.getD v 0).toNat
theorem Ob (m:af) (k:Nat):∀ ds:List Int,eY (bG m (k+1)) (ds.map (AV.int .i64))=some (ds.map (AV.int .i64),[])
 | []=>rfl
 | d::ds=>by
  have:bG m (k+1) (AV.int .i64 d)=some (AV.int .i64 d,[]):=rfl;simp[eY,this,Ob m k ds]
theorem OP:∀ ds:List Int,lB (ds.map (AV.int .i64))=true
 | []=>rfl
 | d::ds=>by
  have:pl (AV.int .i64 d)=true:=rfl;simp[lB,this,OP ds]
theorem qkY {m:af} {nm:Nat} {ds:List Int} (h:m.get nm=some (.obj false (ds.map (AV.int .i64)))):bG m j6 (.arr nm 0 ds.length none)=some (IA false .no ds,[nm]):=by
 have h1:((ds.map (AV.int .i64)).all di)=true:=by simp[List.all_map,di]
 have hg:m.obj? nm=some (false,ds.map (AV.int .i64)):=by rw[oL,h];rfl
 show (m.obj? nm).bind _=_;rw[hg];simp only[aa,Sh.size,bX,bp,kV,aQ,decide_true,nX,mV,bw,iR,jQ (by simp:(ds.map (AV.int .i64)).length<=ds.length)];rw[Ob];simp only[aa,h1,OP,mV,bw,ll];rw[jQ (by simp)]
theorem Je {m:af} {nm i:Nat} {ds:List Int} {y:Int} (h:m.get nm=some (.obj false (ds.map (AV.int .i64)))) (hi:i < ds.length):aL none m (.ptr nm i) (.int .i64 y)=some (m.set nm (some (.obj false ((ds.set i y).map (AV.int .i64))))):=by
 have hg:m.obj? nm=some (false,ds.map (AV.int .i64)):=by rw[oL,h];rfl
 have h1:i+1<=ds.length:=hi;simp only[aL,hg,aa,Sh.size,bX,h1,bw,c9,di,AV.cells];congr 4;simp only[bP,aJ,aP];rw[List.map_set,CG];simp[hi,Ah,List.map_drop]
theorem qoU {m:af} {nm:Nat} {e:Ent} (h:m.get nm=some e):m.set nm (some e)=m:=by
 have hlt:=bF h;apply List.ext_getElem?;intro k;rw[CB]
 split
 ·rename_i hk;subst hk
  first | rw[an hlt] | skip
  unfold af.get at h
  cases hq:m[nm]? with
  | none=>rw[hq] at h;cases h
  | some x=>rw[hq] at h;simp only[aa,id] at h;rw[h]
 ·rfl
theorem SO {z:Bool} {o:Own} {ar:List Int} (h1:∀ x∈ar,1<=x/\x<=64) (cH:ar.length<=16) {i0 nm:Nat} (hi0:i0<=1000000):∀ (j:Nat),j<=ar.length->∀ (q:Nat) (cs:List Int) (m:af),m.get nm=some (.obj false (cs.map (AV.int .i64)))->cs.length=ar.length->(∀ v,j<=v->v < ar.length->0<=cs.getD v 0/\cs.getD v 0 < ar.getD v 0)->q<=i0 ->
  i0=q * bj (ar.drop j)+jc (ar.drop j) j (jx cs)->∃ (cs':List Int) (q':Nat),FQ (IA z o ar) (.int .i64 q) (.arr nm 0 ar.length none) (.int .i64 ((j:Int) - 1)) m (JP (aE ae.P f115.results.toList))=some (.arr nm 0 ar.length none,m.set nm (some (.obj false (cs'.map (AV.int .i64)))))/\cs'.length=ar.length /\
   (∀ v,v < ar.length->0<=cs'.getD v 0/\cs'.getD v 0 < ar.getD v 0)/\i0=q' * bj ar+jc ar 0 (jx cs')
 | 0,_,q,cs,m,hg,hc,hb,hq,he=>by
  refine ⟨cs,q,?_,hc,fun v hv=>hb v (kW _) hv,he⟩;rw[qoU hg,Qd,jZ,aa,aA,ai (by omega),qaI]
 | j+1,hj,q,cs,m,hg,hc,hb,hq,he=>by
  have hv:j < ar.length:=by omega
  have lL:=h1 _ (bS hv);obtain ⟨a,ha⟩:=nA (by omega:0<=ar[j]);have aU:ar.getD j 0=(a:Int):=by rw[aS,bD hv,dh,ha]
  have gW:aH none (IA z o ar) (.int .i64 j)=some (.vptr [.int .i64 a]):=by rw[jB hv,ha]
  have hqa:=xM q a;have hlt:=jY q (show a > 0 by omega);have hl:=bF hg
  obtain ⟨cs',q',e,k⟩:=SO (z:=z) (o:=o) h1 cH hi0 (nm:=nm) j (by omega) (q / a) (cs.set j (q % a:Nat)) (m.set nm (some (.obj false ((cs.set j (q % a:Nat)).map (AV.int .i64))))) (c8 rfl hl) (by rw[a8];exact hc) (fun v ke rC=>by
   by_cases qB:v=j
   ·subst qB;rw[aS,xI (by omega),dh,aU];omega
   ·rw[aS,Ae (by omega),<- aS]
    exact hb v (by omega) rC) (by omega) (by
   rw[uc hv,tU hv,aU,V5 (a:=jx (cs.set j (q % a:Nat))) (b:=jx cs) (ar.drop (j+1)) (j+1) (fun w hw=>by
    unfold jx
    rw[aS,Ae (by omega),<- aS])]
   have e1:jx (cs.set j (q % a:Nat)) j=q % a:=by
    unfold jx;rw[aS,xI (by omega),dh,cK]
   have e2:(a:Int).toNat=a:=cK a;rw[e1,e2,he];generalize bj (ar.drop (j+1))=P;have:=uD q a
   have e3:q * P=q / a * (a * P)+q % a * P:=by
    rw[<- dZ,<- gO,cM (q / a) a,this]
   omega)
  refine ⟨cs',q',?_,k⟩;have ej:((j+1:Nat):Int) - 1=j:=by omega
  rw[ej,Qd,jZ,aa,aA,an (by omega),gW,aa,fV,aa,Om (by omega),aa,fZ hv,aa,Je hg (by omega),aa,aa,fV,aa,Ol (by omega) (by omega),aa,rF (by omega),aa];rw[xL] at e;exact e
structure Asn (ar:List Int) (i:Nat) (cs:List Int):Prop where
 len:cs.length=ar.length
 bd:∀ v,v < ar.length->0<=cs.getD v 0/\cs.getD v 0 < ar.getD v 0
 idx:jc ar 0 (jx cs)=i
theorem Asn.asg {ar:List Int} {i:Nat} {cs:List Int} (h:Asn ar i cs):ik ar (jx cs):=fun v hv=>by
 have:=h.bd v hv;unfold jx;omega
theorem C64 (z:Bool) (o:Own) (ar:List Int) (h1:∀ x∈ar,1<=x/\x<=64) (cH:ar.length<=16) {i:Nat} (hi:i < bj ar) (hi2:i<=1000000) (m:af):∃ cs,AC ae 115 [IA z o ar,.int .i64 i] m=some (.arr m.length 0 ar.length none,m++[some (.obj false (cs.map (AV.int .i64)))])/\Asn ar i cs:=by
 have lp:iP none 3 none (.int .i64 0) 8 m (.int .i64 ar.length) (.int .i64 ar.length)=some (.arr m.length 0 ar.length none,m++[some (Ent.obj false ((List.replicate ar.length (0:Int)).map (AV.int .i64)))]):=by
  have h3:(ar.length:Int) * 8<=281474976710656:=by omega
  have h4:(ar.length:Int)<=9223372036854775807:=by omega
  have h5:(0:Int)<=ar.length:=by omega
  simp only[iP,az,qQ,ql,bw,cK,List.map_replicate];rw[an ⟨h5,trivial,h3,h4⟩]
 obtain ⟨cs,q,e,hc,hb,he⟩:=SO (z:=z) (o:=o) h1 cH hi2 (nm:=m.length) ar.length (aQ _) i (List.replicate ar.length (0:Int)) (m++[some (Ent.obj false ((List.replicate ar.length (0:Int)).map (AV.int .i64)))]) (bJ rfl) (by simp) (fun v h1 h2=>by omega) (aQ _) (by rw[List.drop_length];simp[bj,jc])
 have asn:Asn ar i cs:=by
  refine ⟨hc,hb,?_⟩
  have hq:q=0:=by
   refine Nat.eq_zero_of_not_pos fun hq=>?_;have:1 * bj ar<=q * bj ar:=iM _ hq;omega
  rw[hq] at he;omega
 refine ⟨cs,?_,asn⟩
 have e2:(m++[some (Ent.obj false ((List.replicate ar.length (0:Int)).map (AV.int .i64)))]).set m.length (some (.obj false (cs.map (AV.int .i64))))=m++[some (.obj false (cs.map (AV.int .i64)))]:=by
  rw[rY _ _ (aQ _),pz];rfl
 rw[e2] at e;rw[qfI,iE,aa,lp,aa,aa,rF (by omega),aa];exact e
structure AL (n:Nat) (m0 m:af) (x:AV) (nms:List Nat) (css:List (List Int)):Prop where
 len:nms.length=css.length
 row:∀ k (h1:k < nms.length) (h2:k < css.length),m.get nms[k]=some (.obj false (css[k].map (AV.int .i64)))/\css[k].length=n
 nd:nms.Nodup
 lo:∀ a∈nms,m0.length<=a
 kp:m0.length<=m.length/\∀ k,k < m0.length->m.get k=m0.get k
 x:(x=au/\nms=[])\/∃ t,x=.arr t 0 nms.length none/\0 < nms.length/\m.get t=some (.obj false (nms.map fun a=>.arr a 0 n none))/\m0.length<=t/\t∉nms
theorem AL.lt {n:Nat} {m0 m:af} {x:AV} {nms:List Nat} {css:List (List Int)} (h:AL n m0 m x nms css):∀ a∈nms,a < m.length:=fun a ha=>by
 obtain ⟨k,hk,e⟩:=pv ha;have hl:=h.len;have:=(h.row k hk (by omega)).1;rw[e] at this;exact bF this
theorem qhB {n:Nat} {m0 m:af} {x:AV} {nms:List Nat} {css:List (List Int)} (h:AL n m0 m x nms css) {cs:List Int} (hc:cs.length=n) (hl:css.length<=1000) :
  ∃ x' m',b8 none true 22 none 24 (m++[some (Ent.obj false (cs.map (AV.int .i64)))]) x (.vec 1 none [.arr m.length 0 n none])=some (x',m')/\AL n m0 m' x' (nms++[m.length]) (css++[cs]):=by
 have hlen:=h.len;have hlt:=h.lt;have hY:∀ M:af,w9 M none (.vec 1 none [.arr m.length 0 n none])=some (1,[.arr m.length 0 n none]):=fun M=>rfl
 have nd2:(nms++[m.length]).Nodup:=by
  rw[List.nodup_append]
  exact ⟨h.nd,by simp,fun a ha b hb=>by
   obtain rfl:b=m.length:=by simpa using hb
   have:=hlt a ha;omega⟩
 have rows:∀ (m':af),(∀ k,k < m.length+1->(∀ t,x=.arr t 0 nms.length none->k≠t)->m'.get k=af.get (m++[some (Ent.obj false (cs.map (AV.int .i64)))]) k)->∀ k (h1:k < (nms++[m.length]).length) (h2:k < (css++[cs]).length),m'.get (nms++[m.length])[k]=some (.obj false ((css++[cs])[k].map (AV.int .i64)))/\(css++[cs])[k].length=n:=by
  intro m' hm' k h1 h2
  by_cases hk:k < nms.length
  ·rw[List.getElem_append_left hk,List.getElem_append_left (by omega)];have fW:=bS hk;have iX:=hlt _ fW
   rw[hm' _ (by omega) (fun t ht e=>by
    rcases h.x with ⟨rfl,_⟩ | ⟨t',rfl,_,_,_,hn⟩
    ·cases ht
    ·cases ht;exact hn (e▸fW)),bY iX]
   exact h.row k hk (by omega)
  ·have hk1:k=nms.length:=by simp at h1;omega
   subst hk1;have e1:(nms++[m.length])[nms.length]'h1=m.length:=by simp
   have e2:(css++[cs])[nms.length]'h2=cs:=by simp[hlen]
   rw[e1,e2,hm' _ (by omega) (fun t ht e=>by
    rcases h.x with ⟨rfl,_⟩ | ⟨t',rfl,_,hg,_,hn⟩
    ·cases ht
    ·cases ht;have:=bF hg;omega),bJ rfl]
   exact ⟨rfl,hc⟩
 have lo2:∀ a∈nms++[m.length],m0.length<=a:=fun a ha=>by
  rcases il.1 ha with ha | ha
  ·exact h.lo a ha
  ·obtain rfl:a=m.length:=by simpa using ha
   exact h.kp.1
 have sL:∀ k:Nat,k<=1000->(k+1) * 24<=gG:=fun k hk=>by unfold gG;omega
 rcases h.x with ⟨rfl,rfl⟩ | ⟨t,rfl,iO,hg,gy,htn⟩
 ·have hX:sY (m++[some (Ent.obj false (cs.map (AV.int .i64)))]) none au=some (0,[],m++[some (.obj false (cs.map (AV.int .i64)))]):=rfl
  have ha:b8 none true 22 none 24 (m++[some (Ent.obj false (cs.map (AV.int .i64)))]) au (.vec 1 none [.arr m.length 0 n none])=some (.arr (m++[some (Ent.obj false (cs.map (AV.int .i64)))]).length 0 1 none,(m++[some (Ent.obj false (cs.map (AV.int .i64)))])++[some (.obj false [.arr m.length 0 n none])]):=by
   simp only[b8,sc,hY,hX,aa]
   rfl
  refine ⟨_,_,ha,?_,rows _ (fun k hk _=>bY (by simpa using hk)),nd2,lo2,?_,.inr ⟨(m++[some (Ent.obj false (cs.map (AV.int .i64)))]).length,by simp,by simp,by rw[bJ rfl];rfl,by have:=h.kp.1;simp;omega,by simp⟩⟩
  ·simp only[aI,aJ,aP] at hlen ⊢;omega
  ·refine ⟨by have:=h.kp.1;simp;omega,fun k hk=>?_⟩;have:=h.kp.1;rw[bY (by simp;omega),bY (by omega)];exact h.kp.2 k hk
 ·have qmt:=bF hg;have ow:af.get (m++[some (Ent.obj false (cs.map (AV.int .i64)))]) t=some (.obj false (nms.map fun a=>.arr a 0 n none)):=by rw[bY qmt];exact hg
  have ho:(m++[some (Ent.obj false (cs.map (AV.int .i64)))]).obj? t=some (false,nms.map fun a=>.arr a 0 n none):=by rw[oL,ow];rfl
  have hX:sY (m++[some (Ent.obj false (cs.map (AV.int .i64)))]) none (.arr t 0 nms.length none)=some (nms.length,nms.map fun a=>.arr a 0 n none,(m++[some (Ent.obj false (cs.map (AV.int .i64)))]).set t none):=by
   simp only[sY,ho,aa];rw[an ⟨trivial,trivial,iO,trivial,by simp[Sh.size]⟩]
  have ha:b8 none true 22 none 24 (m++[some (Ent.obj false (cs.map (AV.int .i64)))]) (.arr t 0 nms.length none) (.vec 1 none [.arr m.length 0 n none])=some (.arr ((m++[some (Ent.obj false (cs.map (AV.int .i64)))]).set t none).length 0 (nms.length+1) none,((m++[some (Ent.obj false (cs.map (AV.int .i64)))]).set t none)++[some (.obj false ((nms.map fun a=>.arr a 0 n none)++[.arr m.length 0 n none]))]):=by
   simp only[b8,sc,hY,hX,aa];rw[an (sL nms.length (by omega))]
  have iN:((m++[some (Ent.obj false (cs.map (AV.int .i64)))]).set t none).length=m.length+1:=by simp
  refine ⟨_,_,ha,?_,rows _ (fun k hk hne=>?_),nd2,lo2,?_,.inr ⟨((m++[some (Ent.obj false (cs.map (AV.int .i64)))]).set t none).length,by simp,by simp,by rw[bJ rfl,kU];rfl,by have:=h.kp.1;rw[iN];omega,?_⟩⟩
  ·simp only[aI,hlen,aJ,aP]
  ·rw[bY (by rw[iN];exact hk),cG (hne t rfl)]
  ·refine ⟨by have:=h.kp.1;rw[aI,iN];omega,fun k hk=>?_⟩;have:=h.kp.1;rw[bY (by rw[iN];omega),cG (by omega),bY (by omega)];exact h.kp.2 k hk
  ·rw[iN];intro hh
   rcases il.1 hh with hh | hh
   ·have:=hlt _ hh;omega
   ·simp at hh
theorem qkZ {m:af} {nm k:Nat} {ds:List Int} (h:m.get nm=some (.obj false (ds.map (AV.int .i64)))):bG m (k+2) (.arr nm 0 ds.length none)=some (IA false .no ds,[nm]):=by
 have h1:((ds.map (AV.int .i64)).all di)=true:=by simp[List.all_map,di]
 have hg:m.obj? nm=some (false,ds.map (AV.int .i64)):=by rw[oL,h];rfl
 show (m.obj? nm).bind _=_;rw[hg];simp only[aa,Sh.size,bX,bp,kV,aQ,decide_true,nX,mV,bw,iR,jQ (by simp:(ds.map (AV.int .i64)).length<=ds.length)];rw[Ob];simp only[aa,h1,OP,mV,bw,ll];rw[jQ (by simp)]
theorem W8 {m:af} {n k:Nat}:∀ (nms:List Nat) (css:List (List Int)),nms.length=css.length->(∀ i (h1:i < nms.length) (h2:i < css.length),m.get nms[i]=some (.obj false (css[i].map (AV.int .i64)))/\css[i].length=n)->eY (bG m (k+2)) (nms.map fun a=>.arr a 0 n none)=some (css.map (IA false .no),nms)
 | [],[],_,_=>rfl
 | [],_::_,h,_=>by simp at h
 | _::_,[],h,_=>by simp at h
 | a::nms,cs::css,h,hr=>by
  obtain ⟨r1,r2⟩:=hr 0 (by simp) (by simp);simp only[List.getElem_cons_zero] at r1 r2
  have ih:=W8 (n:=n) (k:=k) (m:=m) nms css (by simpa using h) (fun i h1 h2=>by
   have:=hr (i+1) (by simpa using h1) (by simpa using h2)
   simpa using this)
  have h1:=qkZ (k:=k) r1;rw[r2] at h1;simp only[gd,eY,h1,aa,ih,aR,List.singleton_append]
theorem XY:∀ css:List (List Int),lB (css.map (IA false .no))=true
 | []=>rfl
 | c::css=>by
  have:pl (IA false .no c)=true:=rfl;simp[lB,this,XY css]
theorem qkU {n t:Nat} {m0 m:af} {nms:List Nat} {css:List (List Int)} (h:AL n m0 m (.arr t 0 nms.length none) nms css):bG m j6 (.arr t 0 nms.length none)=some (.lst none false .no (css.map (IA false .no)),t::nms):=by
 have hg:m.get t=some (.obj false (nms.map fun a=>.arr a 0 n none)):=by
  rcases h.x with ⟨e,_⟩ | ⟨t',e,_,hg,_,_⟩
  ·cases e
  ·cases e;exact hg
 have ho:m.obj? t=some (false,nms.map fun a=>.arr a 0 n none):=by rw[oL,hg];rfl
 have hlen:=h.len;have h1:((css.map (IA false .no)).all di)=true:=by simp[List.all_map,di,IA]
 show (m.obj? t).bind _=_;rw[ho];simp only[aa,Sh.size,bX,bp,kV,aQ,decide_true,nX,mV,bw,iR,jQ (by simp:(nms.map fun a=>AV.arr a 0 n none).length<=nms.length)];rw[W8 nms css hlen h.row];simp only[aa,h1,XY,mV,bw,ll];rw[jQ (by simp;omega)]
theorem W35 {z:Bool} {o:Own} {ar:List Int} (h1:∀ x∈ar,1<=x/\x<=64) (cH:ar.length<=16) (hp:bj ar<=300) {m0:af}:∀ (j i:Nat) (m:af) (x:AV) (nms:List Nat) (css:List (List Int)),i+j=bj ar->AL ar.length m0 m x nms css->css.length=i->(∀ k (h:k < css.length),Asn ar k css[k]) ->
  ∃ (m':af) (x':AV) (nms':List Nat) (css':List (List Int)),Gu (IA z o ar) x (.int .i64 i) m (Kh (aE ae.P f54.results.toList))=some (x',m')/\AL ar.length m0 m' x' nms' css'/\css'.length=bj ar/\∀ k (h:k < css'.length),Asn ar k css'[k]:=by
 have hpl:ml 1048576 1 ar=(bj ar:Nat):=by
  rw[X4 ar 1 (fun a ha=>(h1 a ha).1) (by omega) (by omega),Int.one_mul]
 intro j
 induction j with
 | zero=>
  intro i m x nms css hi h hl hc;refine ⟨m,x,nms,css,?_,h,by omega,hc⟩;rw[Q2,Ev _ _ _ cH h1 1048576 (by omega),aa,hpl,cX,aa,aA,ai (by omega),qeb]
 | succ j ih=>
  intro i m x nms css hi h hl hc;obtain ⟨cs,e64,gV⟩:=C64 z o ar h1 cH (i:=i) (by omega) (by omega) m;obtain ⟨x1,m1,ea,g1⟩:=qhB h gV.len (by omega)
  obtain ⟨m',x',nms',css',e,k⟩:=ih (i+1) m1 x1 (nms++[m.length]) (css++[cs]) (by omega) g1 (by simp[hl]) (fun k hk=>by
   by_cases kA:k < css.length
   ·rw[List.getElem_append_left kA];exact hc k kA
   ·have:k=css.length:=by simp at hk;omega
    subst this;have e:(css++[cs])[css.length]'(by simp)=cs:=by simp
    rw[e,hl];exact gV)
  refine ⟨m',x',nms',css',?_,k⟩;have hb:dO none [.arr m.length 0 ar.length none]=some (.vec 1 none [.arr m.length 0 ar.length none]):=rfl;rw[Q2,Ev _ _ _ cH h1 1048576 (by omega),aa,hpl,cX,aa,aA,an (by omega),e64,aa,hb,aa,ea,aa,cB (by omega),aa];exact e
theorem C35 (z:Bool) (o:Own) (ar:List Int) (h1:∀ x∈ar,1<=x/\x<=64) (cH:ar.length<=16) (hp:bj ar<=300) (m:af):∃ (m':af) (t:Nat) (nms:List Nat) (css:List (List Int)),AC ae 54 [IA z o ar] m=some (.arr t 0 nms.length none,m')/\AL ar.length m m' (.arr t 0 nms.length none) nms css/\css.length=bj ar/\∀ k (h:k < css.length),Asn ar k css[k]:=by
 obtain ⟨m',x',nms,css,e,g,hl,hc⟩:=W35 (z:=z) (o:=o) h1 cH hp (m0:=m) (bj ar) 0 m au [] [] (by omega) ⟨rfl,fun k h=>by simp at h,by simp,by simp,⟨aQ _,fun _ _=>rfl⟩,.inl ⟨rfl,rfl⟩⟩ rfl (fun k h=>by simp at h);have iO:=Ew fun x hx=>(h1 x hx).1;have hlen:=g.len
 rcases g.x with ⟨_,rfl⟩ | ⟨t,rfl,_⟩
 ·simp at hlen;omega
 ·refine ⟨m',t,nms,css,?_,g,hl,hc⟩;rw[T54];exact e
theorem V35 (z:Bool) (o:Own) (ar:List Int) (h1:∀ x∈ar,1<=x/\x<=64) (cH:ar.length<=16) (hp:bj ar<=300):∃ (z':Bool) (o':Own) (css:List (List Int)),AP ae 54 [IA z o ar]=some (.lst none z' o' (css.map (IA false .no)))/\css.length=bj ar/\∀ k (h:k < css.length),Asn ar k css[k]:=by
 obtain ⟨m',t,nms,css,e,g,hl,hc⟩:=C35 z o ar h1 cH hp [];exact ⟨false,.no,css,iK e (qkU g) rfl,hl,hc⟩
theorem qn3 (z:Bool) (o:Own) (ar:List Int) (h1:∀ x∈ar,1<=x/\x<=64) (cH:ar.length<=16) (hp:bj ar<=300) (m:af):∃ (z':Bool) (o':Own) (css:List (List Int)),aD (AP ae) none m 54 [IA z o ar]=some (.lst none z' o' (css.map (IA false .no)),m)/\css.length=bj ar/\∀ k (h:k < css.length),Asn ar k css[k]:=by
 obtain ⟨z',o',css,e,h⟩:=V35 z o.fr ar h1 cH hp;exact ⟨z',o',css,by rw[cJ (mG z o ar),e];rfl,h⟩
section
variable {m:af} {s:Nat} {F:List Nat} {most:Int} {l:List ND} {zs z:Bool} {os o:Own} {ar:List Int} {cs:List Int}
end
end Go.Ab
namespace Go.Ab
noncomputable section
open Go.Proofs.Tryz
theorem T66 (a0 a1:AV) (m:af):AC ae 66 [a0,a1] m=(aO false a0).bind fun v1=>(AC ae 125 [a0,v1,a1] m).bind fun r2=>some ((.tup []),r2.2):=
(bm ae 66 [a0,a1] m (fn:=f66) (c:=aB f66) qjp rfl).trans (by kernel_rfl)
def Rl (x0 x1 x2 x6 x7:AV) (m:af):St:=⟨(x0::x1::x2::aK (aG (x6::x7::bI (bC (aM (aK (aG []))))))),m⟩
def Ch (x0 x1 x2 x6 x7 x8:AV) (m:af) (K:KT):OM:=ck 125 (nD (c2 (aB f125))) 2 (x0::x1::x2::aK (aG (x6::x7::x8::bI (bC (aM (aK [])))))) m K
def Rm (m:af):St:=⟨(bI (bC (aW (aM (aK (aG [])))))),m⟩
def vO (x0 x1 x2 x6:AV) (m:af) (K:KT):OM:=ck 125 (uO (c2 (c2 (aB f125)))) 7 (x0::x1::x2::aK (aG (x6::bI (bC (aW []))))) m K
def Rn (x0 x1 x2 x6 x7:AV) (m:af):St:=⟨(x0::x1::x2::aK (aG (x6::x7::bI (bC (aM (aK (aG []))))))),m⟩
def FW (x0 x1 x2 x6 x7 x8:AV) (m:af) (K:KT):OM:=ck 125 (nD (Hw (bo (aB f125)))) 9 (x0::x1::x2::aK (aG (x6::x7::x8::bI (bC (aM (aK [])))))) m K
abbrev qa8 (K:KT):KT:=bE 125 (c2 (c2 (c2 (aB f125)))) K
abbrev qa9 (K:KT):KT:=bz 0 (qa8 K)
abbrev Fj (K:KT):KT:=(qa9 K)
abbrev qbd (K:KT):KT:=bz 3 (nQ 125 (uO (c2 (c2 (aB f125)))) 7 K)
abbrev qbe (K:KT):KT:=bE 125 (L3 (uO (c2 (c2 (aB f125))))) (qbd K)
abbrev qbf (K:KT):KT:=bz 4 (qbe K)
abbrev JT (K:KT):KT:=(qbf K)
abbrev qbb (K:KT):KT:=bz 2 K
abbrev xB (K:KT):KT:=(qbb K)
theorem qfN (a0 a1 a2:AV) (m:af):AC ae 125 [a0,a1,a2] m=Ch a0 a1 a2 (.int .i64 20) (.int .i64 0) (.int .i64 20) m (Fj (aE ae.P f125.results.toList)):=
(bm ae 125 [a0,a1,a2] m (fn:=f125) (c:=aB f125) qia rfl).trans (by kernel_rfl)
theorem Qg (x0 x1 x2 x6 x7 x8:AV) (m:af) (K:KT):Ch x0 x1 x2 x6 x7 x8 m K=(ag .other .leq x8 x1).bind fun v1=>aw v1 ((AC ae 165 [x0,x7,x8,x2] m).bind fun r2=>(ag .other .add x8 x6).bind fun v3=>Ch x0 x1 x2 x6 x8 v3 r2.2 K) (K (.exit 0) (Rl x0 x1 x2 x6 x7 m)):=
(cg (bW _) _ _ _).trans (by kernel_rfl)
theorem Qh (x0 x1 x2 x6:AV) (m:af) (K:KT):vO x0 x1 x2 x6 m K=(ag .other .lss x6 x1).bind fun v1=>aw v1 ((ag .other .mul (.int .i64 2) x6).bind fun v2=>FW x0 x1 x2 x6 (.int .i64 0) v2 m (JT K)) (K (.exit 2) (Rm m)):=
(cg (bW _) _ _ _).trans (by kernel_rfl)
theorem Qi (x0 x1 x2 x6 x7 x8:AV) (m:af) (K:KT):FW x0 x1 x2 x6 x7 x8 m K=(ag .other .leq x8 x1).bind fun v1=>aw v1 ((ag .other .add x7 x6).bind fun v2=>(AC ae 166 [x0,x7,v2,x8,x2] m).bind fun r3=>(ag .other .mul (.int .i64 2) x6).bind fun v4=>(ag .other .add x8 v4).bind fun v5=>FW x0 x1 x2 x6 x8 v5 r3.2 K) (K (.exit 4) (Rn x0 x1 x2 x6 x7 m)):=
(cg (bW _) _ _ _).trans (by kernel_rfl)
theorem qba (x0 x1 x2 x6 x7:AV) (m:af):Fj (aE ae.P f125.results.toList) (.exit 0) (Rl x0 x1 x2 x6 x7 m)=(AC ae 165 [x0,x7,x1,x2] m).bind fun r1=>vO x0 x1 x2 x6 r1.2 (xB (aE ae.P f125.results.toList)):=by kernel_rfl
theorem qbg (x0 x1 x2 x6 x7:AV) (m:af) (K:KT):JT K (.exit 4) (Rn x0 x1 x2 x6 x7 m)=(ag .other .add x7 x6).bind fun v1=>(ag .other .lss v1 x1).bind fun v2=>aw v2 ((AC ae 166 [x0,x7,v1,x1,x2] m).bind fun r3=>(ag .other .mul x6 (.int .i64 2)).bind fun v4=>vO x0 x1 x2 v4 r3.2 K) ((ag .other .mul x6 (.int .i64 2)).bind fun v5=>vO x0 x1 x2 v5 m K):=by kernel_rfl
theorem qbc (m:af):xB (aE ae.P f125.results.toList) (.exit 2) (Rm  m)=some ((.tup []),m):=by kernel_rfl
def Rt (m:af):St:=⟨(bI (bC (aM (aG [])))),m⟩
def Gf (x0 x1 x2 x3 x8:AV) (m:af) (K:KT):OM:=ck 165 (c1 (c1 (c2 (aB f165)))) 1 (x0::x1::x2::x3::aM (x8::bI (aW (aM [])))) m K
def CK (x0 x1 x2 x3 x8:AV) (m:af):St:=⟨(x0::x1::x2::x3::aM (x8::bI (aW (aM [])))),m⟩
def zS (x0 x1 x2 x3 x8 x9:AV) (m:af) (K:KT):OM:=ck 165 (b9 (Hw (c2 (aB f165)))) 4 (x0::x1::x2::x3::aM (x8::x9::bI (aW (aK (aG []))))) m K
abbrev qca (K:KT):KT:=bz 0 K
abbrev Fq (K:KT):KT:=(qca K)
abbrev qcb (K:KT):KT:=bE 165 (kY (c2 (aB f165))) (nQ 165 (c1 (c1 (c2 (aB f165)))) 1 K)
abbrev qcc (K:KT):KT:=bz 1 (qcb K)
abbrev qcd (K:KT):KT:=bz 2 (qcc K)
abbrev J1 (K:KT):KT:=(qcd K)
theorem RT (a0 a1 a2 a3:AV) (m:af):AC ae 165 [a0,a1,a2,a3] m=(ag .other .add a1 (.int .i64 1)).bind fun v1=>Gf a0 a1 a2 a3 v1 m (Fq (aE ae.P f165.results.toList)):=
(bm ae 165 [a0,a1,a2,a3] m (fn:=f165) (c:=aB f165) qiF rfl).trans (by kernel_rfl)
theorem Ko (x0 x1 x2 x3 x8:AV) (m:af) (K:KT):Gf x0 x1 x2 x3 x8 m K=(ag .other .lss x8 x2).bind fun v1=>aw v1 (zS x0 x1 x2 x3 x8 x8 m (J1 K)) (K (.exit 0) (Rt m)):=
(cg (bW _) _ _ _).trans (by kernel_rfl)
theorem Qz (x0 x1 x2 x3 x8 x9:AV) (m:af) (K:KT):zS x0 x1 x2 x3 x8 x9 m K=(ag .other .gtr x9 x1).bind fun v1=>aw v1 ((aH none x0 x9).bind fun v2=>(aj none m v2).bind fun v3=>(ag .other .sub x9 (.int .i64 1)).bind fun v4=>(aH none x0 v4).bind fun v5=>(aj none m v5).bind fun v6=>(lH x3).bind fun g7=>j0 ae 165 (AP ae) (AC ae) none g7.1 ([v3,v6]++g7.2) m fun v8 m9=>(ag .other .lss v8 (.int .i64 0)).bind fun v10=>aw v10 ((ag .other .sub x9 (.int .i64 1)).bind fun v11=>(ag .other .sub x9 (.int .i64 1)).bind fun v12=>(aH none x0 v12).bind fun bu=>(aj none m9 bu).bind fun bq=>(aH none x0 x9).bind fun br=>(aj none m9 br).bind fun bT=>(aH none x0 x9).bind fun bH=>(aL none m9 bH bq).bind fun m18=>(aH none x0 v11).bind fun dG=>(aL none m18 dG bT).bind fun m20=>(ag .other .sub x9 (.int .i64 1)).bind fun v21=>zS x0 x1 x2 x3 x8 v21 m20 K) (K (.exit 2) (CK x0 x1 x2 x3 x8 m9))) (K (.exit 2) (CK x0 x1 x2 x3 x8 m)):=
(cg (bW _) _ _ _).trans (by kernel_rfl)
theorem P2 (m:af):Fq (aE ae.P f165.results.toList) (.exit 0) (Rt  m)=some ((.tup []),m):=by kernel_rfl
theorem qce (x0 x1 x2 x3 x8:AV) (m:af) (K:KT):J1 K (.exit 2) (CK x0 x1 x2 x3 x8 m)=(ag .other .add x8 (.int .i64 1)).bind fun v1=>Gf x0 x1 x2 x3 v1 m K:=by kernel_rfl
def KN (x0 x1 aF:AV) (m:af):St:=⟨(x0::x1::aW (aF::bA (bA (bA (bC (aG [])))))),m⟩
def vQ (x0 x1 x4 aF aZ:AV) (m:af) (K:KT):OM:=ck 166 (nD (Dj (aB f166))) 3 (x0::x1::aK (x4::aM (aG (aF::aZ::bA (bA (bA (bC []))))))) m K
def Rv (m:af):St:=⟨(bA (bA (bA (bC (aW (aM [])))))),m⟩
def Gh (x0 aF aX:AV) (m:af) (K:KT):OM:=ck 166 (b9 (kZ (c2 (c1 (aB f166))))) 9 (x0::aW (aG (aF::aK (aX::bA (bA (bA (aW (aM (aK []))))))))) m K
def KM (x0 x2 aV:AV) (m:af):St:=⟨(x0::aG (x2::aW (aK (aG (aV::bA (bA (bA (aW (aM (aG [])))))))))),m⟩
def vP (x0 x2 x4 aV bL:AV) (m:af) (K:KT):OM:=ck 166 (nD (Dj (c2 (aB f166)))) 15 (x0::aG (x2::aG (x4::aW (aG (aV::bL::bA (bA (bA (aW (aM []))))))))) m K
def Ru (m:af):St:=⟨(bA (bA (bA (bC (aW (aM [])))))),m⟩
def Gg (x0 aV cw:AV) (m:af) (K:KT):OM:=ck 166 (b9 (kZ (c2 (c1 (c2 (aB f166)))))) 21 (x0::aW (aM (aG (aV::aK (cw::bA (bA (bA (aW (aK []))))))))) m K
def GQ (x0 x1 x2 x3 x4 cq fE iH:AV) (m:af):St:=⟨(x0::x1::x2::x3::x4::aW (aM (aG (cq::fE::iH::bA (bA (bA (aM (aK (aG []))))))))),m⟩
def qS (x0 x1 x2 x3 x4 cq fE iH iI bQ:AV) (m:af) (K:KT):OM:=ck 166 (nD (bo (c2 (c2 (aB f166))))) 33 (x0::x1::x2::x3::x4::aW (aM (aG (cq::fE::iH::iI::bQ::bA (bA (bA (aM (aG [])))))))) m K
abbrev qcq (K:KT):KT:=bE 166 (c2 (aB f166)) K
abbrev qcr (K:KT):KT:=bE 166 (kZ (c2 (c1 (aB f166)))) (qcq K)
abbrev qcs (K:KT):KT:=bz 0 (qcr K)
abbrev J4 (K:KT):KT:=(qcs K)
abbrev qcf (K:KT):KT:=bE 166 (c2 (c2 (aB f166))) K
abbrev qcg (K:KT):KT:=bE 166 (kZ (c2 (c1 (c2 (aB f166))))) (qcf K)
abbrev qch (K:KT):KT:=bz 4 (qcg K)
abbrev J2 (K:KT):KT:=(qch K)
abbrev qcn (K:KT):KT:=bE 166 (bo (bo (aB f166))) K
abbrev qco (K:KT):KT:=bz 8 (qcn K)
abbrev vM (K:KT):KT:=(qco K)
abbrev qcu (K:KT):KT:=bE 166 (c2 (aB f166)) K
abbrev qcv (K:KT):KT:=bE 166 (bo (c1 (c2 (c1 (aB f166))))) (qcu K)
abbrev qcw (K:KT):KT:=bz 2 (qcv K)
abbrev J5 (K:KT):KT:=(qcw K)
abbrev qcj (K:KT):KT:=bE 166 (c2 (c2 (aB f166))) K
abbrev qck (K:KT):KT:=bE 166 (bo (mD (aB f166))) (qcj K)
abbrev qcl (K:KT):KT:=bz 6 (qck K)
abbrev J3 (K:KT):KT:=(qcl K)
theorem qgd (a0 a1 a2 a3 a4:AV) (m:af):AC ae 166 [a0,a1,a2,a3,a4] m=(ag .other .sub a2 a1).bind fun v1=>(ag .other .eql v1 (.int .i64 1)).bind fun v2=>aw v2 (vQ a0 a1 a4 a2 a3 m (J4 (aE ae.P f166.results.toList))) ((ag .other .sub a3 a2).bind fun v3=>(ag .other .eql v3 (.int .i64 1)).bind fun v4=>aw v4 (vP a0 a2 a4 a1 a2 m (J2 (aE ae.P f166.results.toList))) ((ag .other .add a1 a3).bind fun v5=>(bn .u64 v5).bind fun v6=>(ag .other .shr v6 (.int .u64 1)).bind fun v7=>(bn .i64 v7).bind fun v8=>(ag .other .add v8 a2).bind fun v9=>(ag .other .gtr a2 v8).bind fun v10=>aw v10 ((ag .other .sub v9 a3).bind fun v11=>(ag .other .sub v9 (.int .i64 1)).bind fun v12=>qS a0 a1 a2 a3 a4 v8 v9 v11 v8 v12 m (vM (aE ae.P f166.results.toList))) ((ag .other .sub v9 (.int .i64 1)).bind fun bu=>qS a0 a1 a2 a3 a4 v8 v9 a1 a2 bu m (vM (aE ae.P f166.results.toList))))):=
(bm ae 166 [a0,a1,a2,a3,a4] m (fn:=f166) (c:=aB f166) qiG rfl).trans (by kernel_rfl)
theorem QD (x0 x1 x4 aF aZ:AV) (m:af) (K:KT):vQ x0 x1 x4 aF aZ m K=(ag .other .lss aF aZ).bind fun v1=>aw v1 ((ag .other .add aF aZ).bind fun v2=>(bn .u64 v2).bind fun v3=>(ag .other .shr v3 (.int .u64 1)).bind fun v4=>(bn .i64 v4).bind fun v5=>(aH none x0 v5).bind fun v6=>(aj none m v6).bind fun v7=>(aH none x0 x1).bind fun v8=>(aj none m v8).bind fun v9=>(lH x4).bind fun g10=>j0 ae 166 (AP ae) (AC ae) none g10.1 ([v7,v9]++g10.2) m fun v11 m12=>(ag .other .lss v11 (.int .i64 0)).bind fun bu=>aw bu ((ag .other .add v5 (.int .i64 1)).bind fun bq=>vQ x0 x1 x4 bq aZ m12 K) (vQ x0 x1 x4 aF v5 m12 K)) (K (.exit 0) (KN x0 x1 aF m)):=
(cg (bW _) _ _ _).trans (by kernel_rfl)
theorem QE (x0 aF aX:AV) (m:af) (K:KT):Gh x0 aF aX m K=(ag .other .sub aF (.int .i64 1)).bind fun v1=>(ag .other .lss aX v1).bind fun v2=>aw v2 ((ag .other .add aX (.int .i64 1)).bind fun v3=>(ag .other .add aX (.int .i64 1)).bind fun v4=>(aH none x0 v4).bind fun v5=>(aj none m v5).bind fun v6=>(aH none x0 aX).bind fun v7=>(aj none m v7).bind fun v8=>(aH none x0 aX).bind fun v9=>(aL none m v9 v6).bind fun m10=>(aH none x0 v3).bind fun v11=>(aL none m10 v11 v8).bind fun m12=>(ag .other .add aX (.int .i64 1)).bind fun bu=>Gh x0 aF bu m12 K) (K (.exit 2) (Rv m)):=
(cg (bW _) _ _ _).trans (by kernel_rfl)
theorem QA (x0 x2 x4 aV bL:AV) (m:af) (K:KT):vP x0 x2 x4 aV bL m K=(ag .other .lss aV bL).bind fun v1=>aw v1 ((ag .other .add aV bL).bind fun v2=>(bn .u64 v2).bind fun v3=>(ag .other .shr v3 (.int .u64 1)).bind fun v4=>(bn .i64 v4).bind fun v5=>(aH none x0 x2).bind fun v6=>(aj none m v6).bind fun v7=>(aH none x0 v5).bind fun v8=>(aj none m v8).bind fun v9=>(lH x4).bind fun g10=>j0 ae 166 (AP ae) (AC ae) none g10.1 ([v7,v9]++g10.2) m fun v11 m12=>(ag .other .lss v11 (.int .i64 0)).bind fun bu=>(jN .not bu).bind fun bq=>aw bq ((ag .other .add v5 (.int .i64 1)).bind fun br=>vP x0 x2 x4 br bL m12 K) (vP x0 x2 x4 aV v5 m12 K)) (K (.exit 4) (KM x0 x2 aV m)):=
(cg (bW _) _ _ _).trans (by kernel_rfl)
theorem QB (x0 aV cw:AV) (m:af) (K:KT):Gg x0 aV cw m K=(ag .other .gtr cw aV).bind fun v1=>aw v1 ((ag .other .sub cw (.int .i64 1)).bind fun v2=>(ag .other .sub cw (.int .i64 1)).bind fun v3=>(aH none x0 v3).bind fun v4=>(aj none m v4).bind fun v5=>(aH none x0 cw).bind fun v6=>(aj none m v6).bind fun v7=>(aH none x0 cw).bind fun v8=>(aL none m v8 v5).bind fun m9=>(aH none x0 v2).bind fun v10=>(aL none m9 v10 v7).bind fun m11=>(ag .other .sub cw (.int .i64 1)).bind fun v12=>Gg x0 aV v12 m11 K) (K (.exit 6) (Ru m)):=
(cg (bW _) _ _ _).trans (by kernel_rfl)
theorem QC (x0 x1 x2 x3 x4 cq fE iH iI bQ:AV) (m:af) (K:KT):qS x0 x1 x2 x3 x4 cq fE iH iI bQ m K=(ag .other .lss iH iI).bind fun v1=>aw v1 ((ag .other .add iH iI).bind fun v2=>(bn .u64 v2).bind fun v3=>(ag .other .shr v3 (.int .u64 1)).bind fun v4=>(bn .i64 v4).bind fun v5=>(ag .other .sub bQ v5).bind fun v6=>(aH none x0 v6).bind fun v7=>(aj none m v7).bind fun v8=>(aH none x0 v5).bind fun v9=>(aj none m v9).bind fun v10=>(lH x4).bind fun g11=>j0 ae 166 (AP ae) (AC ae) none g11.1 ([v8,v10]++g11.2) m fun v12 m13=>(ag .other .lss v12 (.int .i64 0)).bind fun bq=>(jN .not bq).bind fun br=>aw br ((ag .other .add v5 (.int .i64 1)).bind fun bT=>qS x0 x1 x2 x3 x4 cq fE bT iI bQ m13 K) (qS x0 x1 x2 x3 x4 cq fE iH v5 bQ m13 K)) (K (.exit 8) (GQ x0 x1 x2 x3 x4 cq fE iH m)):=
(cg (bW _) _ _ _).trans (by kernel_rfl)
theorem qct (x0 x1 aF:AV) (m:af):J4 (aE ae.P f166.results.toList) (.exit 0) (KN x0 x1 aF m)=Gh x0 aF x1 m (J5 (aE ae.P f166.results.toList)):=by kernel_rfl
theorem qci (x0 x2 aV:AV) (m:af):J2 (aE ae.P f166.results.toList) (.exit 4) (KM x0 x2 aV m)=Gg x0 aV x2 m (J3 (aE ae.P f166.results.toList)):=by kernel_rfl
theorem qcp (x0 x1 x2 x3 x4 cq fE iH:AV) (m:af):vM (aE ae.P f166.results.toList) (.exit 8) (GQ x0 x1 x2 x3 x4 cq fE iH m)=(ag .other .sub fE iH).bind fun v1=>(ag .other .lss iH x2).bind fun v2=>aw v2 ((ag .other .lss x2 v1).bind fun v3=>aw v3 ((AC ae 186 [x0,iH,x2,v1,x4] m).bind fun r4=>(ag .other .lss x1 iH).bind fun v5=>aw v5 ((ag .other .lss iH cq).bind fun v6=>aw v6 ((AC ae 166 [x0,x1,iH,cq,x4] r4.2).bind fun r7=>(ag .other .lss cq v1).bind fun v8=>aw v8 ((ag .other .lss v1 x3).bind fun v9=>aw v9 ((AC ae 166 [x0,cq,v1,x3,x4] r7.2).bind fun hJ=>some ((.tup []),hJ.2)) (some ((.tup []),r7.2))) (some ((.tup []),r7.2))) ((ag .other .lss cq v1).bind fun v11=>aw v11 ((ag .other .lss v1 x3).bind fun v12=>aw v12 ((AC ae 166 [x0,cq,v1,x3,x4] r4.2).bind fun fK=>some ((.tup []),fK.2)) (some ((.tup []),r4.2))) (some ((.tup []),r4.2)))) ((ag .other .lss cq v1).bind fun bq=>aw bq ((ag .other .lss v1 x3).bind fun br=>aw br ((AC ae 166 [x0,cq,v1,x3,x4] r4.2).bind fun hZ=>some ((.tup []),hZ.2)) (some ((.tup []),r4.2))) (some ((.tup []),r4.2)))) ((ag .other .lss x1 iH).bind fun bH=>aw bH ((ag .other .lss iH cq).bind fun fI=>aw fI ((AC ae 166 [x0,x1,iH,cq,x4] m).bind fun pa=>(ag .other .lss cq v1).bind fun v20=>aw v20 ((ag .other .lss v1 x3).bind fun v21=>aw v21 ((AC ae 166 [x0,cq,v1,x3,x4] pa.2).bind fun IY=>some ((.tup []),IY.2)) (some ((.tup []),pa.2))) (some ((.tup []),pa.2))) ((ag .other .lss cq v1).bind fun v23=>aw v23 ((ag .other .lss v1 x3).bind fun v24=>aw v24 ((AC ae 166 [x0,cq,v1,x3,x4] m).bind fun mO=>some ((.tup []),mO.2)) (some ((.tup []),m))) (some ((.tup []),m)))) ((ag .other .lss cq v1).bind fun v26=>aw v26 ((ag .other .lss v1 x3).bind fun kh=>aw kh ((AC ae 166 [x0,cq,v1,x3,x4] m).bind fun ud=>some ((.tup []),ud.2)) (some ((.tup []),m))) (some ((.tup []),m))))) ((ag .other .lss x1 iH).bind fun kR=>aw kR ((ag .other .lss iH cq).bind fun v30=>aw v30 ((AC ae 166 [x0,x1,iH,cq,x4] m).bind fun sX=>(ag .other .lss cq v1).bind fun mR=>aw mR ((ag .other .lss v1 x3).bind fun pQ=>aw pQ ((AC ae 166 [x0,cq,v1,x3,x4] sX.2).bind fun ue=>some ((.tup []),ue.2)) (some ((.tup []),sX.2))) (some ((.tup []),sX.2))) ((ag .other .lss cq v1).bind fun nw=>aw nw ((ag .other .lss v1 x3).bind fun vI=>aw vI ((AC ae 166 [x0,cq,v1,x3,x4] m).bind fun zi=>some ((.tup []),zi.2)) (some ((.tup []),m))) (some ((.tup []),m)))) ((ag .other .lss cq v1).bind fun te=>aw te ((ag .other .lss v1 x3).bind fun uj=>aw uj ((AC ae 166 [x0,cq,v1,x3,x4] m).bind fun r40=>some ((.tup []),r40.2)) (some ((.tup []),m))) (some ((.tup []),m)))):=by kernel_rfl
theorem qcx (m:af):J5 (aE ae.P f166.results.toList) (.exit 2) (Rv  m)=some ((.tup []),m):=by kernel_rfl
theorem qcm (m:af):J3 (aE ae.P f166.results.toList) (.exit 6) (Ru  m)=some ((.tup []),m):=by kernel_rfl
def Rw (x0 x2 x4 aF:AV) (m:af):St:=⟨(x0::aG (x2::aG (x4::aM (aG (aF::bI (aW (aM (aK (aG []))))))))),m⟩
def Ck (x0 x2 x4 aF aZ:AV) (m:af) (K:KT):OM:=ck 186 (nD (c2 (aB f186))) 2 (x0::aG (x2::aG (x4::aM (aG (aF::aZ::bI (aW (aM (aK [])))))))) m K
abbrev qcU (K:KT):KT:=bE 186 (c2 (c2 (c2 (aB f186)))) K
abbrev qcV (K:KT):KT:=bz 0 (qcU K)
abbrev J8 (K:KT):KT:=(qcV K)
theorem qgm (a0 a1 a2 a3 a4:AV) (m:af):AC ae 186 [a0,a1,a2,a3,a4] m=(ag .other .sub a2 a1).bind fun v1=>(ag .other .sub a3 a2).bind fun v2=>Ck a0 a2 a4 v1 v2 m (J8 (aE ae.P f186.results.toList)):=
(bm ae 186 [a0,a1,a2,a3,a4] m (fn:=f186) (c:=aB f186) qiT rfl).trans (by kernel_rfl)
theorem Kr (x0 x2 x4 aF aZ:AV) (m:af) (K:KT):Ck x0 x2 x4 aF aZ m K=(ag .other .neq aF aZ).bind fun v1=>aw v1 ((ag .other .gtr aF aZ).bind fun v2=>aw v2 ((ag .other .sub x2 aF).bind fun v3=>(AC ae 201 [x0,v3,x2,aZ,x4] m).bind fun r4=>(ag .other .sub aF aZ).bind fun v5=>Ck x0 x2 x4 v5 aZ r4.2 K) ((ag .other .sub x2 aF).bind fun v6=>(ag .other .add x2 aZ).bind fun v7=>(ag .other .sub v7 aF).bind fun v8=>(AC ae 201 [x0,v6,v8,aF,x4] m).bind fun r9=>(ag .other .sub aZ aF).bind fun v10=>Ck x0 x2 x4 aF v10 r9.2 K)) (K (.exit 0) (Rw x0 x2 x4 aF m)):=
(cg (bW _) _ _ _).trans (by kernel_rfl)
theorem qcW (x0 x2 x4 aF:AV) (m:af):J8 (aE ae.P f186.results.toList) (.exit 0) (Rw x0 x2 x4 aF m)=(ag .other .sub x2 aF).bind fun v1=>(AC ae 201 [x0,v1,x2,aF,x4] m).bind fun r2=>some ((.tup []),r2.2):=by kernel_rfl
def Rx (m:af):St:=⟨(bI (aM (aK []))),m⟩
def Gp (x0 x1 x2 x3 aF:AV) (m:af) (K:KT):OM:=ck 201 (c1 (c1 (c2 (aB f201)))) 1 (x0::x1::x2::x3::aM (aK (aF::bC (aW (aK (aG [])))))) m K
abbrev qdt (K:KT):KT:=bz 0 K
abbrev Kf (K:KT):KT:=(qdt K)
theorem qgp (a0 a1 a2 a3 a4:AV) (m:af):AC ae 201 [a0,a1,a2,a3,a4] m=Gp a0 a1 a2 a3 (.int .i64 0) m (Kf (aE ae.P f201.results.toList)):=
(bm ae 201 [a0,a1,a2,a3,a4] m (fn:=f201) (c:=aB f201) qiX rfl).trans (by kernel_rfl)
theorem QQ (x0 x1 x2 x3 aF:AV) (m:af) (K:KT):Gp x0 x1 x2 x3 aF m K=(ag .other .lss aF x3).bind fun v1=>aw v1 ((ag .other .add x1 aF).bind fun v2=>(ag .other .add x2 aF).bind fun v3=>(ag .other .add x2 aF).bind fun v4=>(aH none x0 v4).bind fun v5=>(aj none m v5).bind fun v6=>(ag .other .add x1 aF).bind fun v7=>(aH none x0 v7).bind fun v8=>(aj none m v8).bind fun v9=>(aH none x0 v2).bind fun v10=>(aL none m v10 v6).bind fun m11=>(aH none x0 v3).bind fun v12=>(aL none m11 v12 v9).bind fun m13=>(ag .other .add aF (.int .i64 1)).bind fun bq=>Gp x0 x1 x2 x3 bq m13 K) (K (.exit 0) (Rx m)):=
(cg (bW _) _ _ _).trans (by kernel_rfl)
theorem qdu (m:af):Kf (aE ae.P f201.results.toList) (.exit 0) (Rx  m)=some ((.tup []),m):=by kernel_rfl
end
end Go.Ab
namespace Go.Ab
open Go.Proofs Go.Proofs.Tryz
abbrev ni (n:Nat):AV:=.int .i64 (n:Int)
def ds (l:List Nat):List AV:=(l.map Int.ofNat).map (AV.int .i64)
theorem Mc (l:List Nat):(ds l).length=l.length:=by simp[ds]
theorem HF {l:List Nat} {i x:Nat} (h:l[i]?=some x):(ds l)[i]?=some (ni x):=by simp[ds,h]
theorem qkG (l:List Nat) (i x:Nat):(ds l).set i (ni x)=ds (l.set i x):=by simp[ds,List.map_set]
structure SD (m0:af) (nm N L:Nat) (m:af) (l:List Nat):Prop where
 fr:Fr m0 m [nm]
 hd:m.get nm=some (.obj false (ds l))
 hl:l.length=L
 hN:∀ x∈l,x < N
def qk (m0:af) (nm N:Nat) (p:AV) (f:Nat->Int):Prop:=∀ m,Fr m0 m [nm]->∀ x y:Nat,x < N->y < N->∃ m',AC ae 67 [ni x,ni y,p] m=some (.int .i64 (f x - f y),m')/\Fr m m' []
section
variable {m0:af} {nm N L:Nat} {m:af} {l:List Nat}
theorem SD.ld (h:SD m0 nm N L m l) {i x:Nat} (hi:l[i]?=some x):aj none m (.ptr nm i)=some (ni x):=by
 rw[dQ,h.hd,kD,aa,uP];exact HF hi
theorem SD.ld' (h:SD m0 nm N L m l) {i:Nat} (hi:i < L):aj none m (.ptr nm i)=some (ni (l.getD i 0))/\l.getD i 0 < N:=by
 have b6:i < l.length:=by rw[h.hl];exact hi
 have e:l[i]?=some (l.getD i 0):=by rw[aS,bD b6];rfl
 exact ⟨h.ld e,h.hN _ (List.mem_of_getElem? e)⟩
theorem SD.st (h:SD m0 nm N L m l) {i x:Nat} (hi:i < l.length):aL none m (.ptr nm i) (ni x)=some (m.set nm (some (.obj false (ds (l.set i x))))):=by
 have hg:m.obj? nm=some (false,ds l):=by rw[oL,h.hd];rfl
 have h1:i+1<=l.length:=hi;simp only[aL,hg,aa,Sh.size,Mc,h1,bw,c9,di,AV.cells];congr 4;rw[<- qkG,bP,CG,an (by rw[Mc];exact hi)];simp
theorem SD.cmp (h:SD m0 nm N L m l) {p:AV} {f:Nat->Int} (hc:qk m0 nm N p f) {x y:Nat} (hx:x < N) (hy:y < N):∃ m',AC ae 67 ([ni x,ni y]++[p]) m=some (.int .i64 (f x - f y),m')/\SD m0 nm N L m' l:=by
 obtain ⟨m',e,k⟩:=hc m h.fr x y hx hy;refine ⟨m',e,Fr.trans h.fr k (fun _ h=>by cases h),?_,h.hl,h.hN⟩;rw[k.get nm (bF h.hd) (by simp)];exact h.hd
theorem qpL {P M Q:List Nat} {x y:Nat}:(P++x::(M++y::Q))[P.length]?=some x/\(P++x::(M++y::Q))[P.length+1+M.length]?=some y /\
  ((P++x::(M++y::Q)).set P.length y).set (P.length+1+M.length) x=P++y::(M++x::Q)/\((P++x::(M++y::Q)).set (P.length+1+M.length) x).set P.length y=P++y::(M++x::Q):=by
 have a:∀ (P':List Nat) (u v:Nat) (R:List Nat),(P'++u::R)[P'.length]?=some u/\(P'++u::R).set P'.length v=P'++v::R:=fun P' u v R=>by
  constructor
  ·simp
  ·induction P' with
   | nil=>rfl
   | cons c P' ih=>simp
 have e1:P++x::(M++y::Q)=(P++x::M)++y::Q:=by simp
 have e2:P++y::(M++y::Q)=(P++y::M)++y::Q:=by simp
 have l1:P.length+1+M.length=(P++x::M).length:=by simp;omega
 have l2:P.length+1+M.length=(P++y::M).length:=by simp;omega
 refine ⟨(a P x y _).1,?_,?_,?_⟩
 ·rw[e1,l1];exact (a (P++x::M) y x Q).1
 ·rw[(a P x y (M++y::Q)).2,e2,l2,(a (P++y::M) y x Q).2];simp
 ·rw[e1,l1,(a (P++x::M) y x Q).2];have:(P++x::M)++x::Q=P++x::(M++x::Q):=by simp
  rw[this,(a P x y _).2]
theorem SD.put (h:SD m0 nm N L m l) {l':List Nat} (hp:l'.Perm l) (hlen:l'.length=l.length) {m':af} (fr:Fr m m' [nm]) (hd:m'.get nm=some (.obj false (ds l'))):SD m0 nm N L m' l':=
 ⟨Fr.trans h.fr fr (fun x hx=>.inl hx),hd,hlen.trans h.hl,fun x hx=>h.hN x (hp.mem_iff.1 hx)⟩
theorem SD.swap {P M Q:List Nat} {x y i j:Nat} (h:SD m0 nm N L m (P++x::(M++y::Q))) (hi:i=P.length) (hj:j=P.length+1+M.length) :
  aj none m (.ptr nm i)=some (ni x)/\aj none m (.ptr nm j)=some (ni y) /\
  (∃ m1 m2,aL none m (.ptr nm i) (ni y)=some m1/\aL none m1 (.ptr nm j) (ni x)=some m2/\SD m0 nm N L m2 (P++y::(M++x::Q))) /\
  (∃ m1 m2,aL none m (.ptr nm j) (ni x)=some m1/\aL none m1 (.ptr nm i) (ni y)=some m2/\SD m0 nm N L m2 (P++y::(M++x::Q))):=by
 subst hi hj;obtain ⟨a1,a2,a3,a4⟩:=qpL (P:=P) (M:=M) (Q:=Q) (x:=x) (y:=y);have hlt:=bF h.hd;have li:P.length < (P++x::(M++y::Q)).length:=by simp
 have lj:P.length+1+M.length < (P++x::(M++y::Q)).length:=by simp;omega
 have hp:(P++y::(M++x::Q)).Perm (P++x::(M++y::Q)):=by
  refine CA P ?_;have e:∀ u v:Nat,(u::(M++v::Q)).Perm (u::v::(M++Q)):=fun u v=>List.Perm.cons u List.perm_middle;exact (e y x).trans ((List.Perm.swap x y _).trans (e x y).symm)
 have go:∀ (i j u v:Nat),i < (P++x::(M++y::Q)).length->j < (P++x::(M++y::Q)).length->u < N->((P++x::(M++y::Q)).set i u).set j v=P++y::(M++x::Q) ->
   ∃ m1 m2,aL none m (.ptr nm i) (ni u)=some m1/\aL none m1 (.ptr nm j) (ni v)=some m2/\SD m0 nm N L m2 (P++y::(M++x::Q)):=by
  intro i j u v hi hj hu he
  refine ⟨_,(m.set nm (some (.obj false (ds ((P++x::(M++y::Q)).set i u))))).set nm (some (.obj false (ds (P++y::(M++x::Q))))),h.st hi,?_,?_⟩
  ·have h':SD m0 nm N L (m.set nm (some (.obj false (ds ((P++x::(M++y::Q)).set i u))))) ((P++x::(M++y::Q)).set i u):=by
    refine ⟨h.fr.set _ (.inl (by simp)),c8 rfl hlt,by rw[a8];exact h.hl,fun z hz=>?_⟩
    rcases List.mem_or_eq_of_mem_set hz with hz | rfl
    ·exact h.hN z hz
    ·exact hu
   rw[h'.st (by rw[a8];exact hj),he]
  ·exact h.put hp (by simp) (((Fr.refl m [nm]).set _ (.inl (by simp))).set _ (.inl (by simp))) (c8 rfl (by rw[a8];exact hlt))
 have hx:=h.hN x (by simp);have hy:=h.hN y (by simp);exact ⟨h.ld a1,h.ld a2,go _ _ _ _ li lj hy a3,go _ _ _ _ lj li hx a4⟩
end
section
variable {m0:af} {nm N L:Nat} {p:AV} {f:Nat->Int}
theorem qhh (hL:L<=100000) (x4:AV) {pre mid post:List Nat} (a b n:Nat) (ha:a=pre.length) (hb:b=a+n+mid.length):∀ (X2 Y2 X1 Y1:List Nat) (m:af),X2.length=Y2.length->X1.length=Y1.length->X1.length+X2.length=n ->
  SD m0 nm N L m (pre++(Y1++(X2++(mid++(X1++(Y2++post)))))) ->
  ∃ m',Gp (.arr nm 0 L none) (ni a) (ni b) (ni n) (ni X1.length) m (Kf (aE ae.P f201.results.toList))=some (.tup [],m')/\SD m0 nm N L m' (pre++((Y1++Y2)++(mid++((X1++X2)++post)))):=by
 intro X2
 induction X2 with
 | nil=>
  intro Y2 X1 Y1 m h2 h1 hn h;have:Y2=[]:=oN (by simpa using h2.symm);subst this;refine ⟨m,?_,by simpa using h⟩;rw[QQ,bh,aa,aA,ai (by simp at hn;omega),qdu]
 | cons x X2 ih=>
  intro Y2 X1 Y1 m h2 h1 hn h
  cases Y2 with
  | nil=>simp at h2
  | cons y Y2=>
   simp only[aJ] at h2 hn;have hl:=h.hl;simp only[aI,aJ] at hl;have h':SD m0 nm N L m ((pre++Y1)++x::((X2++(mid++X1))++y::(Y2++post))):=by simpa using h
   obtain ⟨l1,l2,⟨m1,m2,s1,s2,k⟩,_⟩:=h'.swap (i:=a+X1.length) (j:=b+X1.length) (by simp;omega) (by simp;omega);obtain ⟨m',e,k'⟩:=ih Y2 (X1++[x]) (Y1++[y]) m2 (by omega) (by simp[h1]) (by simp;omega) (by simpa using k);refine ⟨m',?_,by simpa using k'⟩;have ia:aH none (.arr nm 0 L none) (ni (a+X1.length))=some (.ptr nm (a+X1.length)):=fZ (by omega);have ib:aH none (.arr nm 0 L none) (ni (b+X1.length))=some (.ptr nm (b+X1.length)):=fZ (by omega);rw[QQ,bh,aa,aA,an (by omega),kM (by omega),aa,kM (by omega),aa,aa,ib,aa,l2,aa,aa,ia,aa,l1,aa,aa,s1,aa,aa,s2,aa,cB (by omega),aa];rw[aI,tn] at e;exact e
theorem JC (hL:L<=100000) (x4:AV) {pre mid post X Y:List Nat} {m:af} (hXY:X.length=Y.length) (h:SD m0 nm N L m (pre++(X++(mid++(Y++post))))) {a b n:Nat} (ha:a=pre.length) (hn:n=X.length) (hb:b=a+n+mid.length) :
  ∃ m',AC ae 201 [.arr nm 0 L none,ni a,ni b,ni n,x4] m=some (.tup [],m')/\SD m0 nm N L m' (pre++(Y++(mid++(X++post)))):=by
 obtain ⟨m',e,k⟩:=qhh hL x4 a b n ha hb X Y [] [] m hXY rfl (by simp[hn]) (by simpa using h);exact ⟨m',by rw[qgp];exact e,by simpa using k⟩
theorem qhb (hL:L<=100000) (x4:AV) (mm:Nat):∀ (k:Nat) (P A B Q:List Nat) (m:af),A.length+B.length=k->A≠[]->B≠[]->mm=P.length+A.length->SD m0 nm N L m (P++(A++(B++Q))) ->
  ∃ m',Ck (.arr nm 0 L none) (ni mm) x4 (ni A.length) (ni B.length) m (J8 (aE ae.P f186.results.toList))=some (.tup [],m')/\SD m0 nm N L m' (P++(B++(A++Q))):=by
 intro k
 induction k using Nat.strongRecOn with
 | ind k ih=>
  intro P A B Q m hk hA hB hm h;have hl:=h.hl;simp only[aI] at hl;have a0:=xJ.2 hA;have b0:=xJ.2 hB
  by_cases he:A.length=B.length
  ·obtain ⟨m',e,k'⟩:=JC hL x4 (mid:=[]) he (by simpa using h) (a:=P.length) (b:=mm) (n:=A.length) rfl rfl (by simp[hm]);refine ⟨m',?_,by simpa using k'⟩;rw[Kr,jg,aa,aA,ai (by rw[he];simp),qcW,nk (by omega) (by omega),aa,show mm - A.length=P.length by omega,e,aa]
  ·by_cases hg:B.length < A.length
   ·have eA:A=A.take B.length++A.drop B.length:=(n6 _ _).symm;have t1:(A.take B.length).length=B.length:=by rw[jP];omega
    have t2:(A.drop B.length).length=A.length - B.length:=qT
    obtain ⟨m1,e,k1⟩:=JC hL x4 (pre:=P) (X:=A.take B.length) (mid:=A.drop B.length) (Y:=B) (post:=Q) t1 (by
     rw[<- gA (A.take B.length),n6];exact h) (a:=P.length) (b:=mm) (n:=B.length) rfl t1.symm (by omega)
    obtain ⟨m',e2,k2⟩:=ih A.length (by omega) (P++B) (A.drop B.length) (A.take B.length) Q m1 (by omega) (uA (by omega)) (uA (by omega)) (by simp;omega) (by simpa using k1)
    refine ⟨m',?_,?_⟩
    ·rw[Kr,jg,aa,aA,an (by omega),ir,aa,aA,an (by omega),nk (by omega) (by omega),aa,show mm - A.length=P.length by omega,e,aa,nk (by omega) (by omega),aa];rw[t1,t2] at e2;exact e2
    ·have:=k2;rw[gA,<- gA (A.take B.length),n6] at this;exact this
   ·have eB:B=B.take (B.length - A.length)++B.drop (B.length - A.length):=(n6 _ _).symm;have t1:(B.take (B.length - A.length)).length=B.length - A.length:=by rw[jP];omega
    have t2:(B.drop (B.length - A.length)).length=A.length:=by rw[qT];omega
    obtain ⟨m1,e,k1⟩:=JC hL x4 (pre:=P) (X:=A) (mid:=B.take (B.length - A.length)) (Y:=B.drop (B.length - A.length)) (post:=Q) t2.symm (by
     rw[<- gA (B.take (B.length - A.length)),n6];exact h) (a:=P.length) (b:=mm+B.length - A.length) (n:=A.length) rfl rfl (by omega)
    obtain ⟨m',e2,k2⟩:=ih B.length (by omega) P (B.drop (B.length - A.length)) (B.take (B.length - A.length)) (A++Q) m1 (by omega) (uA (by omega)) (uA (by omega)) (by omega) (by simpa using k1)
    refine ⟨m',?_,?_⟩
    ·rw[Kr,jg,aa,aA,an (by omega),ir,aa,aA,ai (by omega),nk (by omega) (by omega),aa,show mm - A.length=P.length by omega,kM (by omega),aa,nk (by omega) (by omega),aa,e,aa,nk (by omega) (by omega),aa];rw[t1,t2] at e2;exact e2
    ·have:=k2;rw[<- gA (B.take (B.length - A.length)),n6] at this;exact this
theorem ZQ (hL:L<=100000) (x4:AV) {P A B Q:List Nat} {m:af} (hA:A≠[]) (hB:B≠[]) (h:SD m0 nm N L m (P++(A++(B++Q)))) {a mm b:Nat} (ha:a=P.length) (hm:mm=a+A.length) (hb:b=mm+B.length) :
  ∃ m',AC ae 186 [.arr nm 0 L none,ni a,ni mm,ni b,x4] m=some (.tup [],m')/\SD m0 nm N L m' (P++(B++(A++Q))):=by
 have hl:=h.hl;simp only[aI] at hl;obtain ⟨m',e,k⟩:=qhb hL x4 mm _ P A B Q m rfl hA hB (by omega) h;refine ⟨m',?_,k⟩;rw[qgm,nk (by omega) (by omega),aa,nk (by omega) (by omega),aa,show mm - a=A.length by omega,show b - mm=B.length by omega];exact e
theorem qg6 (hL:L<=100000) (hc:qk m0 nm N p f) {pre post:List Nat} (x2 x8:AV) {x:Nat} (K:KT):∀ (k:Nat) (S1 S2:List Nat) (m:af),S1.length=k->cP f (S1++S2)->(∀ s∈S2,f x<=f s)->SD m0 nm N L m (pre++(S1++x::(S2++post))) ->
  ∃ (m':af) (T1 T2:List Nat),zS (.arr nm 0 L none) (ni pre.length) x2 (.fn 67 [p]) x8 (ni (pre.length+S1.length)) m K=K (.exit 2) (CK (.arr nm 0 L none) (ni pre.length) x2 (.fn 67 [p]) x8 m') /\
   SD m0 nm N L m' (pre++(T1++x::(T2++post)))/\T1++T2=S1++S2/\(∀ t∈T1,f t<=f x)/\∀ t∈T2,f x<=f t:=by
 intro k
 induction k with
 | zero=>
  intro S1 S2 m hk hs h2 h;have:S1=[]:=oN hk;subst this;refine ⟨m,[],S2,?_,h,rfl,by simp,h2⟩;rw[Qz,ir,aa,aA,ai (by simp)]
 | succ k ih=>
  intro S1 S2 m hk hs h2 h
  obtain ⟨S,y,rfl⟩:∃ S y,S1=S++[y]:=by
   have hne:S1≠[]:=fun e=>by simp[e] at hk
   exact ⟨S1.dropLast,S1.getLast hne,(List.dropLast_concat_getLast hne).symm⟩
  have hl:=h.hl;simp only[aI,aJ,aP] at hl hk ⊢;have h':SD m0 nm N L m ((pre++S)++y::([]++x::(S2++post))):=by simpa using h
  have lP:pre.length+(S.length+1) - 1=(pre++S).length:=by simp
  have hj:pre.length+(S.length+1)=(pre++S).length+1+([]:List Nat).length:=by simp;omega
  obtain ⟨l1,l2,_,_⟩:=h'.swap lP hj;have hx:=h.hN x (by simp);have hy:=h.hN y (by simp);obtain ⟨m1,e1,k1⟩:=h.cmp hc hx hy;have ia:aH none (.arr nm 0 L none) (ni (pre.length+(S.length+1)))=some (.ptr nm (pre.length+(S.length+1))):=fZ (by omega);have ib:aH none (.arr nm 0 L none) (ni (pre.length+(S.length+1) - 1))=some (.ptr nm (pre.length+(S.length+1) - 1)):=fZ (by omega);have is:ag .other .sub (ni (pre.length+(S.length+1))) (.int .i64 1)=some (ni (pre.length+(S.length+1) - 1)):=oY (by omega) (by omega)
  have yL:zS (.arr nm 0 L none) (ni pre.length) x2 (.fn 67 [p]) x8 (ni (pre.length+(S.length+1))) m K=aw (.bool (decide (f x - f y < 0))) (
    (ag .other .sub (ni (pre.length+(S.length+1))) (.int .i64 1)).bind fun v11=>
    (ag .other .sub (ni (pre.length+(S.length+1))) (.int .i64 1)).bind fun v12=>
    (aH none (.arr nm 0 L none) v12).bind fun bu=>
    (aj none m1 bu).bind fun bq=>
    (aH none (.arr nm 0 L none) (ni (pre.length+(S.length+1)))).bind fun br=>
    (aj none m1 br).bind fun bT=>
    (aH none (.arr nm 0 L none) (ni (pre.length+(S.length+1)))).bind fun bH=>
    (aL none m1 bH bq).bind fun m18=>
    (aH none (.arr nm 0 L none) v11).bind fun dG=>
    (aL none m18 dG bT).bind fun m20=>
    (ag .other .sub (ni (pre.length+(S.length+1))) (.int .i64 1)).bind fun v21=>
    zS (.arr nm 0 L none) (ni pre.length) x2 (.fn 67 [p]) x8 v21 m20 K) (K (.exit 2) (CK (.arr nm 0 L none) (ni pre.length) x2 (.fn 67 [p]) x8 m1)):=by
   rw[Qz,ir,aa,aA,an (by omega),ia,aa,l2,aa,is,aa,ib,aa,l1,aa,show lH (.fn 67 [p])=some (67,[p]) from rfl,aa,tz rfl rfl rfl,e1,aa,bh,aa]
  rw[yL,aA]
  by_cases hlt:f x - f y < 0
  ·rw[an hlt];have k1':SD m0 nm N L m1 ((pre++S)++y::([]++x::(S2++post))):=by simpa using k1
   obtain ⟨l1',l2',_,⟨m2,m3,s1,s2,k3⟩⟩:=k1'.swap lP hj
   obtain ⟨m',T1,T2,e,q1,q2,q3,q4⟩:=ih S (y::S2) m3 (by omega) (by simpa using hs) (fun s gC=>by
    rcases gE.1 gC with rfl | gC
    ·omega
    ·exact h2 s gC) (by simpa using k3)
   refine ⟨m',T1,T2,?_,q1,by rw[q2];simp,q3,q4⟩;rw[is,aa,aa,ib,aa,l1',aa,ia,aa,l2',aa,aa,s1,aa,aa,s2,aa,aa];exact e
  ·rw[ai hlt];refine ⟨m1,S++[y],S2,rfl,k1,rfl,fun t ht=>?_,h2⟩;have:=cP.le_last (cP.app.1 hs).1 t ht;omega
theorem qg7 (hL:L<=100000) (hc:qk m0 nm N p f) {pre post:List Nat} (b:Nat):∀ (R S:List Nat) (m:af),cP f S->b=pre.length+S.length+R.length->SD m0 nm N L m (pre++(S++(R++post))) ->
  ∃ (m':af) (S':List Nat),Gf (.arr nm 0 L none) (ni pre.length) (ni b) (.fn 67 [p]) (ni (pre.length+S.length)) m (Fq (aE ae.P f165.results.toList))=some (.tup [],m')/\SD m0 nm N L m' (pre++(S'++post))/\S'.Perm (S++R)/\cP f S':=by
 intro R
 induction R with
 | nil=>
  intro S m hs hb h;refine ⟨m,S,?_,by simpa using h,by simp,hs⟩;rw[Ko,bh,aa,aA,ai (by simp at hb;omega),P2]
 | cons x R ih=>
  intro S m hs hb h;have hl:=h.hl;simp only[aI,aJ] at hl hb;obtain ⟨m1,T1,T2,e,q1,q2,q3,q4⟩:=qg6 hL hc (pre:=pre) (post:=R++post) (ni b) (ni (pre.length+S.length)) (x:=x) (J1 (Fq (aE ae.P f165.results.toList))) S.length S [] m rfl (by simpa using hs) (by simp) (by simpa using h);rw[cm] at q2;have gC:cP f (T1++x::T2):=cP.put (by rw[q2];exact hs) q3 q4;have hlen:(T1++x::T2).length=S.length+1:=by rw[<- q2];simp;omega
  have A7:(T1++x::T2).Perm (S++[x]):=by rw[<- q2];exact List.perm_middle.trans (List.perm_append_singleton x _).symm
  obtain ⟨m',S',e2,k1,k2,k3⟩:=ih (T1++x::T2) m1 gC (by rw[hlen];omega) (by simpa using q1)
  refine ⟨m',S',?_,k1,k2.trans ?_,k3⟩
  ·rw[Ko,bh,aa,aA,an (by omega),e,qce,cB (by omega),aa];rw[hlen] at e2;exact e2
  ·refine (A7.append_right R).trans ?_;simp
theorem PF (hL:L<=100000) (hc:qk m0 nm N p f) {pre X post:List Nat} {m:af} (h:SD m0 nm N L m (pre++(X++post))) {a b:Nat} (ha:a=pre.length) (hb:b=a+X.length) :
  ∃ (m':af) (X':List Nat),AC ae 165 [.arr nm 0 L none,ni a,ni b,.fn 67 [p]] m=some (.tup [],m')/\SD m0 nm N L m' (pre++(X'++post))/\X'.Perm X/\cP f X':=by
 have hl:=h.hl;simp only[aI] at hl;subst ha
 cases X with
 | nil=>
  refine ⟨m,[],?_,by simpa using h,by simp,List.Pairwise.nil⟩;rw[RT,cB (by omega),aa,Ko,bh,aa,aA,ai (by simp at hb;omega),P2]
 | cons x R=>
  obtain ⟨m',S',e,k1,k2,k3⟩:=qg7 hL hc (pre:=pre) (post:=post) b R [x] m (List.pairwise_singleton _ _) (by rw[hb];simp only[aJ,aP];omega) (by simpa using h);refine ⟨m',S',?_,k1,by simpa using k2,k3⟩;rw[RT,cB (by omega),aa];exact e
end
end Go.Ab
namespace Go.Ab
open Go.Proofs Go.Proofs.Tryz
theorem qo2 (a:Nat):ag .other .shr (.int .u64 (a:Int)) (.int .u64 1)=some (.int .u64 ((a / 2:Nat):Int)):=by
 rw[To _ _ _ _ _ (by omega)]
 have:(a:Int).fdiv (2 ^ (min (1:Int).toNat (IntKind.bits .u64)))=((a / 2:Nat):Int):=by
  have e:min (1:Int).toNat (IntKind.bits .u64)=1:=rfl;rw[e,Int.fdiv_eq_ediv_of_nonneg _ (by omega)];omega
 rw[this]
theorem qj7 {k:IntKind} {a:Nat} (h:a < 9223372036854775808):bn .i64 (.int k a)=some (ni a):=by rw[lZ,iQ (by omega) (by omega)]
section
variable {R:Type}
theorem IB {i j:Nat} (h:i+j < 1000000) (K:AV->Option R):((ag .other .add (ni i) (ni j)).bind fun v2=>(bn .u64 v2).bind fun v3=>(ag .other .shr v3 (.int .u64 1)).bind fun v4=>(bn .i64 v4).bind fun v5=>K v5)=K (ni ((i+j) / 2)):=by
 rw[kM (by omega),aa,Ax (by omega),aa,qo2,aa,qj7 (by omega),aa]
end
section
variable {m0:af} {nm N L:Nat} {p:AV} {f:Nat->Int}
theorem S3 (hL:L<=100000) (hc:qk m0 nm N p f) {l:List Nat} {a lo hi:Nat} (ha:a < L) (hh:hi<=L) (K:KT):∀ (k i j:Nat) (m:af),j - i=k->lo<=i->i<=j->j<=hi->(i=lo\/f (l.getD (i - 1) 0) < f (l.getD a 0))->(j=hi\/¬ f (l.getD j 0) < f (l.getD a 0))->SD m0 nm N L m l ->
  ∃ (m':af) (s:Nat),vQ (.arr nm 0 L none) (ni a) (.fn 67 [p]) (ni i) (ni j) m K=K (.exit 0) (KN (.arr nm 0 L none) (ni a) (ni s) m')/\SD m0 nm N L m' l/\Edge (fun c=>f (l.getD c 0) < f (l.getD a 0)) lo hi s:=by
 intro k
 induction k using Nat.strongRecOn with
 | ind k ih=>
  intro i j m hk h1 h2 h3 h4 h5 h
  by_cases ry:i < j
  ·have p8:i<=(i+j) / 2:=by omega
   have vh:(i+j) / 2 < j:=by omega
   generalize DU:(i+j) / 2=q at p8 vh;obtain ⟨l1,n1⟩:=h.ld' (i:=q) (by omega);obtain ⟨l2,n2⟩:=h.ld' (i:=a) ha;obtain ⟨m1,e1,k1⟩:=h.cmp hc n1 n2;have i1:aH none (.arr nm 0 L none) (ni q)=some (.ptr nm q):=fZ (by omega);have i2:aH none (.arr nm 0 L none) (ni a)=some (.ptr nm a):=fZ ha
   have yL:vQ (.arr nm 0 L none) (ni a) (.fn 67 [p]) (ni i) (ni j) m K=aw (.bool (decide (f (l.getD q 0) - f (l.getD a 0) < 0))) ((ag .other .add (ni q) (.int .i64 1)).bind fun bq=>vQ (.arr nm 0 L none) (ni a) (.fn 67 [p]) bq (ni j) m1 K) (vQ (.arr nm 0 L none) (ni a) (.fn 67 [p]) (ni i) (ni q) m1 K):=by
    rw[QD,bh,aa,aA,an (by omega),IB (by omega),DU,i1,aa,l1,aa,i2,aa,l2,aa,show lH (.fn 67 [p])=some (67,[p]) from rfl,aa,tz rfl rfl rfl,e1,aa,bh,aa]
   rw[yL,aA]
   by_cases ht:f (l.getD q 0) - f (l.getD a 0) < 0
   ·rw[an ht,cB (by omega),aa];exact ih (j - (q+1)) (by omega) (q+1) j m1 rfl (by omega) (by omega) h3 (.inr (by rw[pw];omega)) h5 k1
   ·rw[ai ht];exact ih (q - i) (by omega) i q m1 rfl h1 p8 (by omega) h4 (.inr (by omega)) k1
  ·have:i=j:=by omega
   subst this;refine ⟨m,i,?_,h,h1,h3,h4,h5⟩;rw[QD,bh,aa,aA,ai (by omega)]
theorem S15 (hL:L<=100000) (hc:qk m0 nm N p f) {l:List Nat} {a lo hi:Nat} (ha:a < L) (hh:hi<=L) (K:KT):∀ (k i j:Nat) (m:af),j - i=k->lo<=i->i<=j->j<=hi->(i=lo\/f (l.getD (i - 1) 0)<=f (l.getD a 0))->(j=hi\/¬ f (l.getD j 0)<=f (l.getD a 0))->SD m0 nm N L m l ->
  ∃ (m':af) (s:Nat),vP (.arr nm 0 L none) (ni a) (.fn 67 [p]) (ni i) (ni j) m K=K (.exit 4) (KM (.arr nm 0 L none) (ni a) (ni s) m')/\SD m0 nm N L m' l/\Edge (fun c=>f (l.getD c 0)<=f (l.getD a 0)) lo hi s:=by
 intro k
 induction k using Nat.strongRecOn with
 | ind k ih=>
  intro i j m hk h1 h2 h3 h4 h5 h
  by_cases ry:i < j
  ·have p8:i<=(i+j) / 2:=by omega
   have vh:(i+j) / 2 < j:=by omega
   generalize DU:(i+j) / 2=q at p8 vh;obtain ⟨l1,n1⟩:=h.ld' (i:=q) (by omega);obtain ⟨l2,n2⟩:=h.ld' (i:=a) ha;obtain ⟨m1,e1,k1⟩:=h.cmp hc n2 n1;have i1:aH none (.arr nm 0 L none) (ni q)=some (.ptr nm q):=fZ (by omega);have i2:aH none (.arr nm 0 L none) (ni a)=some (.ptr nm a):=fZ ha
   have yL:vP (.arr nm 0 L none) (ni a) (.fn 67 [p]) (ni i) (ni j) m K=aw (.bool (!decide (f (l.getD a 0) - f (l.getD q 0) < 0))) ((ag .other .add (ni q) (.int .i64 1)).bind fun bq=>vP (.arr nm 0 L none) (ni a) (.fn 67 [p]) bq (ni j) m1 K) (vP (.arr nm 0 L none) (ni a) (.fn 67 [p]) (ni i) (ni q) m1 K):=by
    rw[QA,bh,aa,aA,an (by omega),IB (by omega),DU,i2,aa,l2,aa,i1,aa,l1,aa,show lH (.fn 67 [p])=some (67,[p]) from rfl,aa,tz rfl rfl rfl,e1,aa,bh,aa,rI,aa]
   rw[yL]
   by_cases ht:f (l.getD a 0) - f (l.getD q 0) < 0
   ·rw[dD ht,kS,iC];exact ih (q - i) (by omega) i q m1 rfl h1 p8 (by omega) h4 (.inr (by omega)) k1
   ·rw[dd ht,nX,mc,cB (by omega),aa];exact ih (j - (q+1)) (by omega) (q+1) j m1 rfl (by omega) (by omega) h3 (.inr (by rw[pw];omega)) h5 k1
  ·have:i=j:=by omega
   subst this;refine ⟨m,i,?_,h,h1,h3,h4,h5⟩;rw[QA,bh,aa,aA,ai (by omega)]
theorem S33 (hL:L<=100000) (hc:qk m0 nm N p f) {l:List Nat} {pp lo hi:Nat} (hh:hi<=pp+1) (hp:pp < L+lo) (hhl:hi<=L) (x1 x2 x3 cq fE:AV) (K:KT):∀ (k i j:Nat) (m:af),j - i=k->lo<=i->i<=j->j<=hi->(i=lo\/f (l.getD (i - 1) 0)<=f (l.getD (pp - (i - 1)) 0))->(j=hi\/¬ f (l.getD j 0)<=f (l.getD (pp - j) 0))->SD m0 nm N L m l ->
  ∃ (m':af) (s:Nat),qS (.arr nm 0 L none) x1 x2 x3 (.fn 67 [p]) cq fE (ni i) (ni j) (ni pp) m K=K (.exit 8) (GQ (.arr nm 0 L none) x1 x2 x3 (.fn 67 [p]) cq fE (ni s) m')/\SD m0 nm N L m' l/\Edge (fun c=>f (l.getD c 0)<=f (l.getD (pp - c) 0)) lo hi s:=by
 intro k
 induction k using Nat.strongRecOn with
 | ind k ih=>
  intro i j m hk h1 h2 h3 h4 h5 h
  by_cases ry:i < j
  ·have p8:i<=(i+j) / 2:=by omega
   have vh:(i+j) / 2 < j:=by omega
   generalize DU:(i+j) / 2=q at p8 vh;obtain ⟨l1,n1⟩:=h.ld' (i:=q) (by omega);obtain ⟨l2,n2⟩:=h.ld' (i:=pp - q) (by omega);obtain ⟨m1,e1,k1⟩:=h.cmp hc n2 n1;have i1:aH none (.arr nm 0 L none) (ni q)=some (.ptr nm q):=fZ (by omega);have i2:aH none (.arr nm 0 L none) (ni (pp - q))=some (.ptr nm (pp - q)):=fZ (by omega)
   have yL:qS (.arr nm 0 L none) x1 x2 x3 (.fn 67 [p]) cq fE (ni i) (ni j) (ni pp) m K=aw (.bool (!decide (f (l.getD (pp - q) 0) - f (l.getD q 0) < 0))) ((ag .other .add (ni q) (.int .i64 1)).bind fun bq=>qS (.arr nm 0 L none) x1 x2 x3 (.fn 67 [p]) cq fE bq (ni j) (ni pp) m1 K) (qS (.arr nm 0 L none) x1 x2 x3 (.fn 67 [p]) cq fE (ni i) (ni q) (ni pp) m1 K):=by
    rw[QC,bh,aa,aA,an (by omega),IB (by omega),DU,nk (by omega) (by omega),aa,i2,aa,l2,aa,i1,aa,l1,aa,show lH (.fn 67 [p])=some (67,[p]) from rfl,aa,tz rfl rfl rfl,e1,aa,bh,aa,rI,aa]
   rw[yL]
   by_cases ht:f (l.getD (pp - q) 0) - f (l.getD q 0) < 0
   ·rw[dD ht,kS,iC];exact ih (q - i) (by omega) i q m1 rfl h1 p8 (by omega) h4 (.inr (by omega)) k1
   ·rw[dd ht,nX,mc,cB (by omega),aa];exact ih (j - (q+1)) (by omega) (q+1) j m1 rfl (by omega) (by omega) h3 (.inr (by rw[pw];omega)) h5 k1
  ·have:i=j:=by omega
   subst this;refine ⟨m,i,?_,h,h1,h3,h4,h5⟩;rw[QC,bh,aa,aA,ai (by omega)]
theorem W9 (hL:L<=100000) {x s:Nat} {pre post:List Nat}:∀ (Q P:List Nat) (m:af),s=pre.length+P.length+1+Q.length->SD m0 nm N L m (pre++(P++x::(Q++post))) ->
  ∃ m',Gh (.arr nm 0 L none) (ni s) (ni (pre.length+P.length)) m (J5 (aE ae.P f166.results.toList))=some (.tup [],m')/\SD m0 nm N L m' (pre++(P++(Q++x::post))):=by
 intro Q
 induction Q with
 | nil=>
  intro P m hs h;have hl:=h.hl;simp only[aI,aJ,aP] at hl hs;refine ⟨m,?_,h⟩;rw[QE,oY (by omega) (by omega),aa,bh,aa,aA,ai (by omega),qcx]
 | cons y Q ih=>
  intro P m hs h;have hl:=h.hl;simp only[aI,aJ] at hl hs;have h':SD m0 nm N L m ((pre++P)++x::([]++y::(Q++post))):=by simpa using h
  obtain ⟨l1,l2,⟨m1,m2,s1,s2,k⟩,_⟩:=h'.swap (i:=pre.length+P.length) (j:=pre.length+P.length+1) (by simp) (by simp);obtain ⟨m',e,k'⟩:=ih (P++[y]) m2 (by simp;omega) (by simpa using k);refine ⟨m',?_,by simpa using k'⟩;have ia:aH none (.arr nm 0 L none) (ni (pre.length+P.length))=some (.ptr nm (pre.length+P.length)):=fZ (by omega);have ib:aH none (.arr nm 0 L none) (ni (pre.length+P.length+1))=some (.ptr nm (pre.length+P.length+1)):=fZ (by omega);have i1:ag .other .add (ni (pre.length+P.length)) (.int .i64 1)=some (ni (pre.length+P.length+1)):=cB (by omega);rw[QE,oY (by omega) (by omega),aa,bh,aa,aA,an (by omega),i1,aa,aa,ib,aa,l2,aa,ia,aa,l1,aa,aa,s1,aa,aa,s2,aa,aa];rw[aI,tn] at e;exact e
theorem W21 (hL:L<=100000) {x s:Nat} {pre post:List Nat} (hs:s=pre.length):∀ (k:Nat) (Q P:List Nat) (m:af),Q.length=k->SD m0 nm N L m (pre++(Q++x::(P++post))) ->
  ∃ m',Gg (.arr nm 0 L none) (ni s) (ni (pre.length+Q.length)) m (J3 (aE ae.P f166.results.toList))=some (.tup [],m')/\SD m0 nm N L m' (pre++(x::(Q++(P++post)))):=by
 intro k
 induction k with
 | zero=>
  intro Q P m hk h;have:Q=[]:=oN hk;subst this;refine ⟨m,?_,h⟩;rw[QB,ir,aa,aA,ai (by simp;omega),qcm]
 | succ k ih=>
  intro Q P m hk h
  obtain ⟨S,y,rfl⟩:∃ S y,Q=S++[y]:=by
   have hne:Q≠[]:=fun e=>by simp[e] at hk
   exact ⟨Q.dropLast,Q.getLast hne,(List.dropLast_concat_getLast hne).symm⟩
  have hl:=h.hl;simp only[aI,aJ,aP] at hl hk ⊢;have h':SD m0 nm N L m ((pre++S)++y::([]++x::(P++post))):=by simpa using h
  obtain ⟨l1,l2,_,⟨m1,m2,s1,s2,k1⟩⟩:=h'.swap (i:=pre.length+(S.length+1) - 1) (j:=pre.length+(S.length+1)) (by simp) (by simp;omega);obtain ⟨m',e,k'⟩:=ih S (y::P) m2 (by omega) (by simpa using k1);refine ⟨m',?_,by simpa using k'⟩;have ia:aH none (.arr nm 0 L none) (ni (pre.length+(S.length+1)))=some (.ptr nm (pre.length+(S.length+1))):=fZ (by omega);have ib:aH none (.arr nm 0 L none) (ni (pre.length+(S.length+1) - 1))=some (.ptr nm (pre.length+(S.length+1) - 1)):=fZ (by omega);have is:ag .other .sub (ni (pre.length+(S.length+1))) (.int .i64 1)=some (ni (pre.length+(S.length+1) - 1)):=oY (by omega) (by omega);have e0:ni (pre.length+(S.length+0+1))=ni (pre.length+(S.length+1)):=rfl;rw[QB,ir,aa,aA,an (by omega),is,aa,aa,ib,aa,l1,aa,ia,aa,l2,aa,aa,s1,aa,aa,s2,aa,aa];exact e
end
end Go.Ab
namespace Go.Ab
open Go.Proofs Go.Proofs.Tryz
theorem cP.le_take {f:Nat->Int} {B:List Nat} (h:cP f B) {s:Nat} {c:Int} (hs:s<=B.length) (he:s=0\/f (B.getD (s - 1) 0)<=c):∀ t∈B.take s,f t<=c:=by
 cases s with
 | zero=>simp
 | succ s=>
  have hl:s < B.length:=hs
  rcases he with he | he
  ·cases he
  ·rw[pw,aS,bD hl,dh] at he;rw[n7 hl];intro t ht
   have h1:cP f (B.take s++[B[s]]):=by
    rw[<- n7 hl];exact Cz (List.take_sublist _ _) h
   exact Int.le_trans (cP.le_last h1 t ht) he
theorem cP.ge_drop {f:Nat->Int} {B:List Nat} (h:cP f B) {s:Nat} {c:Int} (he:s=B.length\/c<=f (B.getD s 0)):∀ t∈B.drop s,c<=f t:=by
 by_cases hl:s < B.length
 ·rcases he with he | he
  ·omega
  ·rw[aS,bD hl,dh] at he;rw[kT hl];intro t ht
   have h1:cP f (B[s]::B.drop (s+1)):=by
    rw[<- kT hl];exact Cz (List.drop_sublist _ _) h
   exact Int.le_trans he (cP.head_le h1 t ht)
 ·rw[jo (by omega)];simp
theorem Dr {pre A B post:List Nat} {i k:Nat} (hi:i < A.length) (hk:k=pre.length+i):(pre++(A++(B++post))).getD k 0=A.getD i 0:=by
 subst hk;simp only[aS];rw[rS (by omega),Nat.add_sub_cancel_left,nB hi]
theorem Ds {pre A B post:List Nat} {i k:Nat} (hi:i < B.length) (hk:k=pre.length+A.length+i):(pre++(A++(B++post))).getD k 0=B.getD i 0:=by
 subst hk;simp only[aS];rw[rS (by omega),rS (by omega),nB (by omega)];congr 2;omega
noncomputable def Eg (x0 cq v1 x3 x4:AV) (m:af):OM:=
 (ag .other .lss cq v1).bind fun v=>aw v ((ag .other .lss v1 x3).bind fun w=>aw w ((AC ae 166 [x0,cq,v1,x3,x4] m).bind fun r=>some ((.tup []),r.2)) (some ((.tup []),m))) (some ((.tup []),m))
noncomputable def wX (x0 x1 iH cq v1 x3 x4:AV) (m:af):OM:=
 (ag .other .lss x1 iH).bind fun v=>aw v ((ag .other .lss iH cq).bind fun w=>aw w ((AC ae 166 [x0,x1,iH,cq,x4] m).bind fun r=>Eg x0 cq v1 x3 x4 r.2) (Eg x0 cq v1 x3 x4 m)) (Eg x0 cq v1 x3 x4 m)
theorem mE0 (x0 x1 x2 x3 x4 cq fE iH:AV) (m:af):vM (aE ae.P f166.results.toList) (.exit 8) (GQ x0 x1 x2 x3 x4 cq fE iH m) =
  (ag .other .sub fE iH).bind fun v1=>(ag .other .lss iH x2).bind fun v2=>aw v2 ((ag .other .lss x2 v1).bind fun v3=>aw v3 ((AC ae 186 [x0,iH,x2,v1,x4] m).bind fun r=>wX x0 x1 iH cq v1 x3 x4 r.2) (wX x0 x1 iH cq v1 x3 x4 m)) (wX x0 x1 iH cq v1 x3 x4 m):=(qcp x0 x1 x2 x3 x4 cq fE iH m).trans rfl
section
variable {m0:af} {nm N L:Nat} {p:AV} {f:Nat->Int}
def PO (m0:af) (nm N L:Nat) (p:AV) (f:Nat->Int) (n:Nat):Prop:=∀ (pre A B post:List Nat) (m:af) (a mm b:Nat),A.length+B.length=n->A≠[]->B≠[]->cP f A->cP f B->SD m0 nm N L m (pre++(A++(B++post)))->a=pre.length->mm=a+A.length->b=mm+B.length ->
 ∃ (m':af) (M:List Nat),AC ae 166 [.arr nm 0 L none,ni a,ni mm,ni b,.fn 67 [p]] m=some (.tup [],m')/\SD m0 nm N L m' (pre++(M++post))/\M.Perm (A++B)/\cP f M
theorem XO {n:Nat} (ih:PO m0 nm N L p f n) {pre A B post:List Nat} {m:af} {a mm b:Nat} (hn:A.length+B.length=n) (sA:cP f A) (sB:cP f B) (h:SD m0 nm N L m (pre++(A++(B++post)))) (ha:a=pre.length) (hm:mm=a+A.length) (hb:b=mm+B.length)
  {R:Type} (K:af->Option R):∃ (m':af) (M:List Nat),((ag .other .lss (ni a) (ni mm)).bind fun v=>aw v ((ag .other .lss (ni mm) (ni b)).bind fun w=>aw w ((AC ae 166 [.arr nm 0 L none,ni a,ni mm,ni b,.fn 67 [p]] m).bind fun r=>K r.2) (K m)) (K m))=K m'/\SD m0 nm N L m' (pre++(M++post))/\M.Perm (A++B)/\cP f M:=by
 rw[bh,aa,aA]
 by_cases hA:A=[]
 ·subst hA;rw[ai (by simp at hm;omega)];exact ⟨m,B,rfl,h,by simp,sB⟩
 ·have:=xJ.2 hA;rw[an (by omega),bh,aa,aA]
  by_cases hB:B=[]
  ·subst hB;rw[ai (by simp at hb;omega)];exact ⟨m,A,rfl,by simpa using h,by simp,sA⟩
  ·have:=xJ.2 hB;rw[an (by omega)];obtain ⟨m',M,e,k⟩:=ih pre A B post m a mm b hn hA hB sA sB h ha hm hb;exact ⟨m',M,by rw[e,aa],k⟩
theorem PG (hL:L<=100000) (hc:qk m0 nm N p f):∀ n,PO m0 nm N L p f n:=by
 intro n
 induction n using Nat.strongRecOn with
 | ind n ih=>
  intro pre A B post m a mm b hn hA hB sA sB h ha hm hb;have a0:=xJ.2 hA;have b0:=xJ.2 hB;have hl:=h.hl;simp only[aI] at hl;rw[qgd,nk (by omega) (by omega),aa,iS,aa,aA]
  by_cases h1:A.length=1
  ·rw[an (by omega)];obtain ⟨x,rfl⟩:=List.length_eq_one_iff.1 h1;obtain ⟨m1,s,e1,k1,g1,g2,g3,g4⟩:=S3 hL hc (l:=pre++([x]++(B++post))) (a:=a) (lo:=mm) (hi:=b) (by omega) (by omega) (J4 (aE ae.P f166.results.toList)) _ mm b m rfl (aQ _) (by omega) (aQ _) (.inl rfl) (.inl rfl) h;dsimp only at g3 g4;have ex:(pre++([x]++(B++post))).getD a 0=x:=by rw[Dr (i:=0) (by simp) (by omega)];rfl
   rw[ex] at g3 g4
   have q1:∀ t∈B.take (s - mm),f t<=f x:=cP.le_take sB (by omega) (by
    rcases g3 with g3 | g3
    ·exact .inl (by omega)
    ·by_cases hz:s=mm
     ·exact .inl (by omega)
     ·rw[Ds (i:=s - 1 - mm) (by omega) (by omega)] at g3;rw[show s - mm - 1=s - 1 - mm by omega]
      exact .inr (by omega))
   have q2:∀ t∈B.drop (s - mm),f x<=f t:=cP.ge_drop sB (by
    rcases g4 with g4 | g4
    ·exact .inl (by omega)
    ·by_cases hz:s=b
     ·exact .inl (by omega)
     ·rw[Ds (i:=s - mm) (by omega) (by omega)] at g4
      exact .inr (by omega))
   have tl:(B.take (s - mm)).length=s - mm:=by rw[jP];omega
   obtain ⟨m2,e2,k2⟩:=W9 hL (x:=x) (s:=s) (pre:=pre) (post:=B.drop (s - mm)++post) (B.take (s - mm)) [] m1 (by simp at hm ⊢;omega) (by
    rw[bV,<- gA (B.take (s - mm)),n6];exact k1)
   refine ⟨m2,B.take (s - mm)++x::B.drop (s - mm),?_,by simpa using k2,?_,?_⟩
   ·rw[e1,qct,ha];exact e2
   ·refine List.perm_middle.trans ?_;rw[n6];exact List.Perm.refl _
   ·exact cP.put (by rw[n6];exact sB) q1 q2
  ·rw[ai (by omega),nk (by omega) (by omega),aa,iS,aa,aA]
   by_cases h2:B.length=1
   ·rw[an (by omega)];obtain ⟨x,rfl⟩:=List.length_eq_one_iff.1 h2;obtain ⟨m1,s,e1,k1,g1,g2,g3,g4⟩:=S15 hL hc (l:=pre++(A++([x]++post))) (a:=mm) (lo:=a) (hi:=mm) (by omega) (by omega) (J2 (aE ae.P f166.results.toList)) _ a mm m rfl (aQ _) (by omega) (aQ _) (.inl rfl) (.inl rfl) h;dsimp only at g3 g4;have ex:(pre++(A++([x]++post))).getD mm 0=x:=by rw[Ds (i:=0) (by simp) (by omega)];rfl
    rw[ex] at g3 g4
    have q1:∀ t∈A.take (s - a),f t<=f x:=cP.le_take sA (by omega) (by
     rcases g3 with g3 | g3
     ·exact .inl (by omega)
     ·by_cases hz:s=a
      ·exact .inl (by omega)
      ·rw[Dr (i:=s - 1 - a) (by omega) (by omega)] at g3;rw[show s - a - 1=s - 1 - a by omega]
       exact .inr g3)
    have q2:∀ t∈A.drop (s - a),f x<=f t:=cP.ge_drop sA (by
     rcases g4 with g4 | g4
     ·exact .inl (by omega)
     ·by_cases hz:s=mm
      ·exact .inl (by omega)
      ·rw[Dr (i:=s - a) (by omega) (by omega)] at g4
       exact .inr (by omega))
    have tl:(A.take (s - a)).length=s - a:=by rw[jP];omega
    have dl:(A.drop (s - a)).length=A.length - (s - a):=qT
    obtain ⟨m2,e2,k2⟩:=W21 hL (x:=x) (s:=s) (pre:=pre++A.take (s - a)) (post:=post) (by simp[tl];omega) _ (A.drop (s - a)) [] m1 rfl (by
     rw[bV,gA,<- gA (A.take (s - a)),n6];exact k1)
    refine ⟨m2,A.take (s - a)++x::A.drop (s - a),?_,by simpa using k2,?_,?_⟩
    ·rw[e1,qci];have:(pre++A.take (s - a)).length+(A.drop (s - a)).length=mm:=by rw[aI,tl,dl];omega
     rw[this] at e2;exact e2
    ·refine List.perm_middle.trans ?_;rw[n6];exact (List.perm_append_singleton x A).symm
    ·exact cP.put (by rw[n6];exact sA) q1 q2
   ·rw[ai (by omega)];rw[IB (by omega)];have Vz:(a+b) / 2 * 2<=a+b:=GF _ _;have qlT:a+b<=(a+b) / 2 * 2+1:=by omega
    generalize (a+b) / 2=mid at Vz qlT;rw[kM (by omega),aa,ir,aa,aA]
    have srch:∃ (lo hi:Nat),(if ((mm:Nat):Int) > ((mid:Nat):Int) then
       (ag .other .sub (.int .i64 ((mid+mm:Nat):Int)) (ni b)).bind fun v11=>(ag .other .sub (.int .i64 ((mid+mm:Nat):Int)) (.int .i64 1)).bind fun v12=>qS (.arr nm 0 L none) (ni a) (ni mm) (ni b) (.fn 67 [p]) (ni mid) (.int .i64 ((mid+mm:Nat):Int)) v11 (ni mid) v12 m (vM (aE ae.P f166.results.toList))
      else (ag .other .sub (.int .i64 ((mid+mm:Nat):Int)) (.int .i64 1)).bind fun bu=>qS (.arr nm 0 L none) (ni a) (ni mm) (ni b) (.fn 67 [p]) (ni mid) (.int .i64 ((mid+mm:Nat):Int)) (ni a) (ni mm) bu m (vM (aE ae.P f166.results.toList))) =
      qS (.arr nm 0 L none) (ni a) (ni mm) (ni b) (.fn 67 [p]) (ni mid) (ni (mid+mm)) (ni lo) (ni hi) (ni (mid+mm - 1)) m (vM (aE ae.P f166.results.toList))/\a<=lo/\lo<=hi/\hi<=mm/\hi<=mid/\mid+mm<=b+lo/\(lo=a\/mid+mm=b+lo)/\(hi=mm\/hi=mid):=by
     by_cases hg:mid < mm
     ·refine ⟨mid+mm - b,mid,?_,by omega,by omega,by omega,by omega,by omega,.inr (by omega),.inr rfl⟩;rw[an (by omega),nk (by omega) (by omega),aa,oY (by omega) (by omega),aa]
     ·refine ⟨a,mm,?_,by omega,by omega,by omega,by omega,by omega,.inl rfl,.inl rfl⟩;rw[ai (by omega),oY (by omega) (by omega),aa]
    obtain ⟨lo,hi,eS,z1,z2,z3,z4,z5,z6,z7⟩:=srch;rw[eS];obtain ⟨m1,s,e1,k1,g1,g2,g3,g4⟩:=S33 hL hc (l:=pre++(A++(B++post))) (pp:=mid+mm - 1) (lo:=lo) (hi:=hi) (by omega) (by omega) (by omega) (ni a) (ni mm) (ni b) (ni mid) (ni (mid+mm)) (vM (aE ae.P f166.results.toList)) _ lo hi m rfl (aQ _) z2 (aQ _) (.inl rfl) (.inl rfl) h;dsimp only at g3 g4;rw[e1,mE0,nk (by omega) (by omega),aa];obtain ⟨e,he⟩:∃ e,e=mid+mm - s:=⟨_,rfl⟩;rw[<- he];have eA:A.take (s - a)++A.drop (s - a)=A:=n6 _ _;have eB:B.take (e - mm)++B.drop (e - mm)=B:=n6 _ _;have tA:(A.take (s - a)).length=s - a:=by rw[jP];omega
    have dA:(A.drop (s - a)).length=mm - s:=by rw[qT];omega
    have tB:(B.take (e - mm)).length=e - mm:=by rw[jP];omega
    have dB:(B.drop (e - mm)).length=b - e:=by rw[qT];omega
    have b1:∀ x∈A.take (s - a),∀ y∈B.drop (e - mm),f x<=f y:=by
     by_cases hs:s=a
     ·rw[show s - a=0 by omega];simp
     ·by_cases DX:e=b
      ·rw[jo (show B.length<=e - mm by omega)];simp
      ·have hne:s≠lo:=by omega
       have:=g3.resolve_left hne;rw[Dr (i:=s - 1 - a) (by omega) (by omega),Ds (i:=e - mm) (by omega) (by omega)] at this;intro x hx y hy;have u1:=cP.le_take sA (s:=s - a) (c:=f (A.getD (s - 1 - a) 0)) (by omega) (.inr (by rw[show s - a - 1=s - 1 - a by omega];exact ql _)) x hx;have u2:=cP.ge_drop sB (s:=e - mm) (c:=f (B.getD (e - mm) 0)) (.inr (ql _)) y hy;omega
    have b2:∀ x∈B.take (e - mm),∀ y∈A.drop (s - a),f x<=f y:=by
     by_cases hs:s=mm
     ·rw[jo (show A.length<=s - a by omega)];simp
     ·by_cases DX:e=mm
      ·rw[show e - mm=0 by omega];simp
      ·have hne:s≠hi:=by omega
       have:=g4.resolve_left hne;rw[Dr (i:=s - a) (by omega) (by omega),Ds (i:=e - 1 - mm) (by omega) (by omega)] at this;intro x hx y hy;have u1:=cP.le_take sB (s:=e - mm) (c:=f (B.getD (e - 1 - mm) 0)) (by omega) (.inr (by rw[show e - mm - 1=e - 1 - mm by omega];exact ql _)) x hx;have u2:=cP.ge_drop sA (s:=s - a) (c:=f (A.getD (s - a) 0)) (.inr (ql _)) y hy;omega
    have k1':SD m0 nm N L m1 ((pre++A.take (s - a))++(A.drop (s - a)++(B.take (e - mm)++(B.drop (e - mm)++post)))):=by
     rw[<- gA (B.take (e - mm)),eB,gA,<- gA (A.take (s - a)),eA];exact k1
    have turn:∃ m2,((ag .other .lss (ni s) (ni mm)).bind fun v2=>aw v2 ((ag .other .lss (ni mm) (ni e)).bind fun v3=>aw v3 ((AC ae 186 [.arr nm 0 L none,ni s,ni mm,ni e,.fn 67 [p]] m1).bind fun r=>wX (.arr nm 0 L none) (ni a) (ni s) (ni mid) (ni e) (ni b) (.fn 67 [p]) r.2) (wX (.arr nm 0 L none) (ni a) (ni s) (ni mid) (ni e) (ni b) (.fn 67 [p]) m1)) (wX (.arr nm 0 L none) (ni a) (ni s) (ni mid) (ni e) (ni b) (.fn 67 [p]) m1))=wX (.arr nm 0 L none) (ni a) (ni s) (ni mid) (ni e) (ni b) (.fn 67 [p]) m2/\SD m0 nm N L m2 ((pre++A.take (s - a))++(B.take (e - mm)++(A.drop (s - a)++(B.drop (e - mm)++post)))):=by
     rw[bh,aa,aA]
     by_cases hs:s < mm
     ·rw[an (by omega),bh,aa,aA]
      by_cases DX:mm < e
      ·rw[an (by omega)];obtain ⟨m2,er,k2⟩:=ZQ hL (.fn 67 [p]) (uA (by omega)) (uA (by omega)) k1' (a:=s) (mm:=mm) (b:=e) (by rw[aI,tA];omega) (by omega) (by omega);exact ⟨m2,by rw[er,aa],k2⟩
      ·rw[ai (by omega)];refine ⟨m1,rfl,?_⟩;rw[show B.take (e - mm)=[] from oN (by omega)] at k1' ⊢;simpa using k1'
     ·rw[ai (by omega)];refine ⟨m1,rfl,?_⟩;rw[show A.drop (s - a)=[] from oN (by omega)] at k1' ⊢;simpa using k1'
    obtain ⟨m2,et,k2⟩:=turn;rw[et];have s1:cP f (A.take (s - a)):=Cz (List.take_sublist _ _) sA;have s2:cP f (A.drop (s - a)):=Cz (List.drop_sublist _ _) sA;have s3:cP f (B.take (e - mm)):=Cz (List.take_sublist _ _) sB;have s4:cP f (B.drop (e - mm)):=Cz (List.drop_sublist _ _) sB;obtain ⟨m3,M1,e3,k3,p3,r3⟩:=XO (ih (mid - a) (by omega)) (pre:=pre) (A:=A.take (s - a)) (B:=B.take (e - mm)) (post:=A.drop (s - a)++(B.drop (e - mm)++post)) (m:=m2) (a:=a) (mm:=s) (b:=mid) (by omega) s1 s3 (by simpa using k2) ha (by omega) (by omega) (fun q=>Eg (.arr nm 0 L none) (ni mid) (ni e) (ni b) (.fn 67 [p]) q);have e3:wX (.arr nm 0 L none) (ni a) (ni s) (ni mid) (ni e) (ni b) (.fn 67 [p]) m2=Eg (.arr nm 0 L none) (ni mid) (ni e) (ni b) (.fn 67 [p]) m3:=e3;rw[e3];have lM1:M1.length=mid - a:=by rw[p3.length_eq,aI];omega
    obtain ⟨m4,M2,e4,k4,p4,r4⟩:=XO (ih (b - mid) (by omega)) (pre:=pre++M1) (A:=A.drop (s - a)) (B:=B.drop (e - mm)) (post:=post) (m:=m3) (a:=mid) (mm:=e) (b:=b) (by omega) s2 s4 (by simpa using k3) (by rw[aI];omega) (by omega) (by omega) (fun q=>some ((.tup []:AV),q));obtain ⟨w1,w2⟩:=cP.both (by rw[eA];exact sA) (by rw[eB];exact sB) b1 b2 p3 p4 r3 r4;rw[eA,eB] at w2;exact ⟨m4,M1++M2,e4,by simpa using k4,w2,w1⟩
theorem qgZ (hL:L<=100000) (hc:qk m0 nm N p f):∀ (k:Nat) (F R:List Nat) (m:af),R.length=k->Full f 20 F->SD m0 nm N L m (F++R) ->
  ∃ (m':af) (l':List Nat),Ch (.arr nm 0 L none) (ni L) (.fn 67 [p]) (.int .i64 20) (ni F.length) (ni (F.length+20)) m (Fj (aE ae.P f125.results.toList))=vO (.arr nm 0 L none) (ni L) (.fn 67 [p]) (.int .i64 20) m' (xB (aE ae.P f125.results.toList))/\SD m0 nm N L m' l'/\l'.Perm (F++R)/\Runs f 20 l':=by
 intro k
 induction k using Nat.strongRecOn with
 | ind k ih=>
  intro F R m hk hF h;have hl:=h.hl;simp only[aI] at hl
  by_cases hb:20<=R.length
  ·have tX:(R.take 20).length=20:=by rw[jP];omega
   obtain ⟨m1,X',e1,k1,p1,s1⟩:=PF hL hc (pre:=F) (X:=R.take 20) (post:=R.drop 20) (m:=m) (by rw[n6];exact h) (a:=F.length) (b:=F.length+20) rfl (by omega);have lX:X'.length=20:=by rw[p1.length_eq];exact tX
   obtain ⟨m',l',e2,k2,p2,r2⟩:=ih (R.drop 20).length (by rw[qT];omega) (F++X') (R.drop 20) m1 rfl (.more F X' hF lX s1) (by simpa using k1)
   refine ⟨m',l',?_,k2,p2.trans ?_,r2⟩
   ·rw[Qg,si,aa,aA,an (by omega),e1,aa,show (AV.int .i64 20)=ni 20 from rfl,kM (by omega),aa];rw[aI,lX] at e2;exact e2
   ·rw[gA];refine CA F ?_;have:=p1.append_right (R.drop 20)
    rwa [n6] at this
  ·obtain ⟨m1,X',e1,k1,p1,s1⟩:=PF hL hc (pre:=F) (X:=R) (post:=[]) (m:=m) (by simpa using h) (a:=F.length) (b:=L) rfl (by omega);refine ⟨m1,F++X',?_,by simpa using k1,CA F p1,hF.runs _ (.last _ (by rw[p1.length_eq];omega) s1)⟩;rw[Qg,si,aa,aA,ai (by omega),qba,e1,aa]
theorem qg0 (hL:L<=100000) (hc:qk m0 nm N p f) {bs:Nat} (ov:0 < bs) (pH:bs < L):∀ (k:Nat) (F R:List Nat) (m:af),R.length=k->Full f (2 * bs) F->Runs f bs R->SD m0 nm N L m (F++R) ->
  ∃ (m':af) (l':List Nat),FW (.arr nm 0 L none) (ni L) (.fn 67 [p]) (ni bs) (ni F.length) (ni (F.length+2 * bs)) m (JT (xB (aE ae.P f125.results.toList)))=vO (.arr nm 0 L none) (ni L) (.fn 67 [p]) (ni (bs * 2)) m' (xB (aE ae.P f125.results.toList))/\SD m0 nm N L m' l'/\l'.Perm (F++R)/\Runs f (2 * bs) l':=by
 intro k
 induction k using Nat.strongRecOn with
 | ind k ih=>
  intro F R m hk hF hR h;have hl:=h.hl;simp only[aI] at hl;have e2i:(AV.int .i64 2)=ni 2:=rfl
  by_cases hb:2 * bs<=R.length
  ·obtain ⟨x1,R1,rfl,lx1,sx1,HR⟩:=hR.two ov (by omega);simp only[aI] at hb hl
   obtain ⟨x2,R2,rfl,lx2,sx2,UM⟩:∃ x r,R1=x++r/\x.length=bs/\cP f x/\Runs f bs r:=by
    by_cases hq:bs < R1.length
    ·exact HR.two ov hq
    ·exact ⟨R1,[],by simp,by omega,HR.one (by omega),.last [] (by simp) List.Pairwise.nil⟩
   obtain ⟨m1,M,e1,k1,p1,s1⟩:=PG hL hc _ F x1 x2 R2 m F.length (F.length+bs) (F.length+2 * bs) rfl (uA (by omega)) (uA (by omega)) sx1 sx2 (by simpa using h) rfl (by omega) (by omega);have lM:M.length=2 * bs:=by rw[p1.length_eq,aI];omega
   obtain ⟨m',l',e2,k2,p2,r2⟩:=ih R2.length (by rw[<- hk];simp;omega) (F++M) R2 m1 rfl (.more F M hF lM s1) UM (by simpa using k1);simp only[aI] at hl
   refine ⟨m',l',?_,k2,p2.trans ?_,r2⟩
   ·rw[Qi,si,aa,aA,an (by omega),kM (by omega),aa,e1,aa,e2i,we,show ((2:Nat):Int) * (bs:Nat)=((2 * bs:Nat):Int) by omega,iQ (by omega) (by omega),aa,kM (by omega),aa];rw[aI,lM] at e2;exact e2
   ·rw[gA,<- gA x1];exact CA F (p1.append_right R2)
  ·have e2m:ag .other .mul (ni bs) (.int .i64 2)=some (ni (bs * 2)):=by
    rw[e2i,we,show (bs:Int) * (2:Nat)=((bs * 2:Nat):Int) by omega,iQ (by omega) (by omega)]
   rw[Qi,si,aa,aA,ai (by omega),qbg,kM (by omega),aa,bh,aa,aA,e2m]
   by_cases hq:bs < R.length
   ·rw[an (by omega)];obtain ⟨x1,R1,rfl,lx1,sx1,HR⟩:=hR.two ov hq;simp only[aI] at hb hl hq;obtain ⟨m1,M,e1,k1,p1,s1⟩:=PG hL hc _ F x1 R1 [] m F.length (F.length+bs) L rfl (uA (by omega)) (uA (by omega)) sx1 (HR.one (by omega)) (by simpa using h) rfl (by omega) (by omega);refine ⟨m1,F++M,?_,by simpa using k1,CA F p1,hF.runs _ (.last _ (by rw[p1.length_eq,aI];omega) s1)⟩;rw[e1,aa,aa]
   ·rw[ai (by omega)];exact ⟨m,F++R,by rw[aa],h,List.Perm.refl _,hF.runs _ (.last _ (by omega) (hR.one (by omega)))⟩
theorem qg1 (hL:L<=100000) (hc:qk m0 nm N p f):∀ (k bs:Nat) (l:List Nat) (m:af),L - bs=k->0 < bs->bs < 1000000->Runs f bs l->SD m0 nm N L m l ->
  ∃ (m':af) (l':List Nat),vO (.arr nm 0 L none) (ni L) (.fn 67 [p]) (ni bs) m (xB (aE ae.P f125.results.toList))=some (.tup [],m')/\SD m0 nm N L m' l'/\l'.Perm l/\cP f l':=by
 intro k
 induction k using Nat.strongRecOn with
 | ind k ih=>
  intro bs l m hk h0 hbb hR h
  by_cases hb:bs < L
  ·obtain ⟨m1,l1,e1,k1,p1,r1⟩:=qg0 hL hc h0 hb _ [] l m rfl .nil hR (by simpa using h);obtain ⟨m',l',e2,k2,p2,s2⟩:=ih (L - bs * 2) (by omega) (bs * 2) l1 m1 rfl (by omega) (by omega) (by rw[cM];exact r1) k1;refine ⟨m',l',?_,k2,p2.trans (by simpa using p1),s2⟩;rw[Qh,bh,aa,aA,an (by omega),show (AV.int .i64 2)=ni 2 from rfl,we,show ((2:Nat):Int) * (bs:Nat)=((0+2 * bs:Nat):Int) by omega,iQ (by omega) (by omega),aa];rw[<- e2];exact e1
  ·refine ⟨m,l,?_,h,List.Perm.refl _,hR.one (by rw[h.hl];omega)⟩;rw[Qh,bh,aa,aA,ai (by omega),qbc]
theorem Z1 (hL:L<=100000) (hc:qk m0 nm N p f) {l:List Nat} {m:af} (h:SD m0 nm N L m l):∃ (m':af) (l':List Nat),AC ae 66 [.arr nm 0 L none,.fn 67 [p]] m=some (.tup [],m')/\SD m0 nm N L m' l'/\l'.Perm l/\cP f l':=by
 obtain ⟨m1,l1,e1,k1,p1,r1⟩:=qgZ hL hc _ [] l m rfl .nil (by simpa using h);obtain ⟨m',l',e2,k2,p2,s2⟩:=qg1 hL hc _ 20 l1 m1 rfl (by omega) (by omega) r1 k1;refine ⟨m',l',?_,k2,p2.trans (by simpa using p1),s2⟩;have e1:Ch (.arr nm 0 L none) (ni L) (.fn 67 [p]) (.int .i64 20) (.int .i64 0) (.int .i64 20) m (Fj (aE ae.P f125.results.toList))=_:=e1;have e2:vO (.arr nm 0 L none) (ni L) (.fn 67 [p]) (.int .i64 20) m1 (xB (aE ae.P f125.results.toList))=_:=e2;rw[T66,show aO false (.arr nm 0 L none)=some (ni L) from rfl,aa,qfN,e1,e2,aa]
end
end Go.Ab
namespace Go.Ab
noncomputable section
open Go.Proofs.Tryz
theorem T65 (a0 a1:AV) (m:af):AC ae 65 [a0,a1] m=(dI none none m a0).bind fun r1=>(aj none (az none r1.2 (.obj true [au])).2 r1.1).bind fun v2=>(iG v2).bind fun v3=>(aT 1 v3).bind fun v4=>(aj none (az none r1.2 (.obj true [au])).2 v4).bind fun v5=>(aO false v5).bind fun v6=>(iP none 4 none (.bool false) 1 (az none r1.2 (.obj true [au])).2 v6 v6).bind fun r7=>(aL none (az none r7.2 (.obj true [au])).2 (.ptr (az none r7.2 .resv).1 0) r7.1).bind fun m8=>(aL none (az none m8 (.obj true [.nilf])).2 (.ptr (az none m8 .resv).1 0) (.fn 124 [(.ptr (az none r7.2 .resv).1 0),r1.1,(.ptr (az none m8 .resv).1 0),(.ptr (az none r1.2 .resv).1 0)])).bind fun m9=>(aj none m9 (.ptr (az none m8 .resv).1 0)).bind fun v10=>(lH v10).bind fun g11=>j0 ae 65 (AP ae) (AC ae) none g11.1 ([a1]++g11.2) m9 fun v12 m13=>(aj none m13 (.ptr (az none r1.2 .resv).1 0)).bind fun bq=>some (bq,m13):=
(bm ae 65 [a0,a1] m (fn:=f65) (c:=aB f65) qjo rfl).trans (by kernel_rfl)
def KD (x0 x4:AV) (m:af):St:=⟨(x0::aK (aG (x4::bC (aW (aM (aK (aG []))))))),m⟩
def Cg (x0 x3 x4 bQ bU cD:AV) (m:af) (K:KT):OM:=ck 124 (b9 (c2 (c2 (aB f124)))) 3 (x0::aK (x3::x4::bC (aG (bQ::bU::cD::aW (aK (aG [])))))) m K
abbrev qa5 (K:KT):KT:=bE 124 (c2 (c2 (c2 (aB f124)))) K
abbrev qa6 (K:KT):KT:=bz 0 (qa5 K)
abbrev B8 (K:KT):KT:=(qa6 K)
theorem RP (a0 a1 a2 a3 a4:AV) (m:af):AC ae 124 [a0,a1,a2,a3,a4] m=(aj none m a1).bind fun v1=>(aH none v1 a0).bind fun v2=>(aj none m v2).bind fun v3=>aw v3 (some ((.tup []),m)) ((aj none m a1).bind fun v4=>(aH none v4 a0).bind fun v5=>(aL none m v5 (.bool true)).bind fun m6=>(aj none m6 a2).bind fun v7=>(iG v7).bind fun v8=>(aT 1 v8).bind fun v9=>(aj none m6 v9).bind fun v10=>(aH (some 3) v10 a0).bind fun v11=>(aT 1 v11).bind fun v12=>(aj none m6 v12).bind fun bu=>(aO false bu).bind fun bq=>Cg a0 a3 a4 bu bq (.int .i64 0) m6 (B8 (aE ae.P f124.results.toList))):=
(bm ae 124 [a0,a1,a2,a3,a4] m (fn:=f124) (c:=aB f124) qh9 rfl).trans (by kernel_rfl)
theorem Qf (x0 x3 x4 bQ bU cD:AV) (m:af) (K:KT):Cg x0 x3 x4 bQ bU cD m K=(ag .other .lss cD bU).bind fun v1=>aw v1 ((aH none bQ cD).bind fun v2=>(aj none m v2).bind fun v3=>(aj none m x3).bind fun v4=>(lH v4).bind fun g5=>j0 ae 124 (AP ae) (AC ae) none g5.1 ([v3]++g5.2) m fun v6 m7=>(ag .other .add cD (.int .i64 1)).bind fun v8=>Cg x0 x3 x4 bQ bU v8 m7 K) (K (.exit 0) (KD x0 x4 m)):=
(cg (bW _) _ _ _).trans (by kernel_rfl)
theorem qa7 (x0 x4:AV) (m:af):B8 (aE ae.P f124.results.toList) (.exit 0) (KD x0 x4 m)=(aj none m x4).bind fun v1=>(dO none [x0]).bind fun v2=>(b8 none true 3 none 8 m v1 v2).bind fun r3=>(aL none r3.2 x4 r3.1).bind fun m4=>some ((.tup []),m4):=by kernel_rfl
theorem qfC (a0:AV) (m:af):AC ae 106 [a0] m=(dI none (some 3) m a0).bind fun r1=>(aT 2 r1.1).bind fun v2=>(aj none r1.2 v2).bind fun v3=>(aT 0 r1.1).bind fun v4=>(aj none r1.2 v4).bind fun v5=>(ag .other .lss v5 (.int .i64 0)).bind fun v6=>some ((.tup [v3,v6]),r1.2):=
(bm ae 106 [a0] m (fn:=f106) (c:=aB f106) qhU rfl).trans (by kernel_rfl)
end
end Go.Ab
namespace Go.Ab
open Go.Proofs Go.Proofs.Tryz
theorem oZ {m:af} {nm:Nat} {b:Bool} {v:AV} (h:m.get nm=some (.obj b [v])):aj none m (.ptr nm 0)=some v:=by
 rw[dQ,h,kD,aa];rfl
theorem qpa {m:af} {nm:Nat} {b:Bool} {v0 v:AV} (h:m.get nm=some (.obj b [v0])) (hv:c9 none v=true) (hc:v.cells=[v]):aL none m (.ptr nm 0) v=some (m.set nm (some (.obj b [v]))):=by
 rw[qL,h,kD,aa];simp[cS,Sh.size,hv,bP,hc]
theorem qmX {m:af} {nm i:Nat} {ds:List Bool} (h:m.get nm=some (.obj false (ds.map .bool))) (hi:i < ds.length):aj none m (.ptr nm i)=some (.bool (ds.getD i false)):=by
 rw[dQ,h,kD,aa,uP,oO,bD hi,aS,bD hi];rfl
theorem qo9 {m:af} {nm i:Nat} {ds:List Bool} {y:Bool} (h:m.get nm=some (.obj false (ds.map .bool))) (hi:i < ds.length):aL none m (.ptr nm i) (.bool y)=some (m.set nm (some (.obj false ((ds.set i y).map .bool)))):=by
 have hg:m.obj? nm=some (false,ds.map .bool):=by rw[oL,h];rfl
 have h1:i+1<=ds.length:=hi;simp only[aL,hg,aa,Sh.size,bX,h1,bw,c9,di,AV.cells];congr 4;simp only[bP,aJ,aP];rw[List.map_set,CG];simp[hi,Ah,List.map_drop]
theorem Ui (a b c:AV):aT 1 (.vptr [a,b,c])=some (.vptr [b,c]):=rfl
theorem Mh (a b c:AV):aT 0 (.vptr [a,b,c])=some (.vptr [a,b,c]):=rfl
theorem f2v (a b c:AV):aT 2 (.vptr [a,b,c])=some (.vptr [c]):=rfl
theorem Wp (m:af) (a b:AV):aj none m (.vptr [a,b])=some a:=rfl
theorem Es (s:Nat) (m:af) (e:Ent):az (some s) m e=(s,m.set s (some e)):=rfl
inductive GA (m:af):AV->List Nat->List Nat->Prop
 | none:GA m au [] []
 | some (t:Nat) (l:List Nat) (h:m.get t=some (.obj false (ds l))) (hne:l≠[]):GA m (.arr t 0 l.length none) l [t]
theorem Uv {m m':af} {x:AV} {l T:List Nat} (h:GA m x l T) (hm:∀ y∈T,m'.get y=m.get y):GA m' x l T:=by
 cases h with
 | none=>exact .none
 | some t l h hne=>exact .some t l ((hm t (by simp)).trans h) hne
theorem Uw {m:af} {x:AV} {l T:List Nat} (h:GA m x l T):c9 none x=true/\x.cells=[x]:=by
 cases h<;>exact ⟨rfl,rfl⟩
theorem qlf {m:af} {x:AV} {l T:List Nat} (h:GA m x l T) (hl:l.length<=100000) (v:Nat):∃ x' m' T',b8 none true 3 none 8 m x (.lst none false .full [ni v])=some (x',m')/\GA m' x' (l++[v]) T'/\Fr m m' T/\Gr m T T':=by
 cases h with
 | none=>
  have ha:b8 none true 3 none 8 m au (.lst none false .full [ni v])=some (.arr m.length 0 1 none,m++[some (.obj false [ni v])]):=by
   simp only[b8,aP,aJ,bp,bw,or_true,bV,az]
   rfl
  refine ⟨_,_,[m.length],ha,.some m.length [v] (by rw[bJ rfl];rfl) (by simp),Fr.app m _ _,fun k hk=>?_⟩;obtain rfl:k=m.length:=by simpa using hk
  exact .inr (aQ _)
 | some t l hg hne=>
  have iO:=xJ.2 hne;have gy:=bF hg;have ho:m.obj? t=some (false,ds l):=by rw[oL,hg];rfl
  have hY:w9 m none (.lst none false .full [ni v])=some (1,[ni v]):=rfl
  have hX:sY m none (.arr t 0 l.length none)=some (l.length,ds l,m.set t none):=by
   simp only[sY,ho,aa];rw[an ⟨trivial,trivial,iO,trivial,by simp[Sh.size,Mc]⟩]
  have ha:b8 none true 3 none 8 m (.arr t 0 l.length none) (.lst none false .full [ni v])=some (.arr (m.set t none).length 0 (l.length+1) none,m.set t none++[some (.obj false (ds l++[ni v]))]):=by
   simp only[b8,sc,hY,hX,aa];rw[an (show (l.length+1) * 8<=gG by unfold gG;omega)]
  have e:ds l++[ni v]=ds (l++[v]):=by simp[ds]
  have e2:l.length+1=(l++[v]).length:=by simp
  refine ⟨_,_,[(m.set t none).length],by rw[ha,e,e2],.some _ (l++[v]) (by rw[bJ rfl]) (by simp),((Fr.refl m [t]).set _ (.inl (by simp))).snoc _,fun k hk=>?_⟩;obtain rfl:k=(m.set t none).length:=by simpa using hk
  exact .inr (by simp)
structure LS (m0 m:af) (b s:Nat) (sb:List Bool) (out:List Nat) (x:AV) (T:List Nat):Prop where
 hb:b=m0.length
 fr:Fr m0 m []
 h0:m.get b=some (.obj true [.ptr s 0])
 h1:m.get (b+1)=some (.obj true [x])
 h2:m.get (b+2)=some (.obj false (sb.map .bool))
 h3:m.get (b+3)=some (.obj true [.arr (b+2) 0 sb.length none])
 h4:m.get (b+4)=some (.obj true [.fn 124 [.ptr (b+3) 0,.ptr b 0,.ptr (b+4) 0,.ptr (b+1) 0]])
 gr:GA m x out T
 hT:∀ y∈T,b+5<=y
theorem sU:∀ (n:Nat) (l:List Nat),l.Nodup->(∀ x∈l,x < n)->l.length<=n
 | 0,[],_,_=>aQ _
 | 0,x::l,_,h=>by have:=h x fN;omega
 | n+1,l,hn,h=>by
  by_cases hm:n∈l
  ·have e:=List.length_erase_of_mem hm
   have:=sU n (l.erase n) (hn.erase n) fun x hx=>by
    have h1:=(hn.mem_erase_iff).1 hx;have:=h x h1.2;have:=h1.1;omega
   omega
  ·have:=sU n l hn fun x hx=>by
    have h1:=h x hx;have:x≠n:=fun e=>hm (e▸hx);omega
   omega
section
variable {m0:af} {b s:Nat} {F:List Nat} {arms:AV} {most:Int} {l:List ND} {ar:List Int}
def PQ (l:List ND) (m0:af) (b s id:Nat):Prop:=∀ (m:af) (sb:List Bool) (out:List Nat) (x:AV) (T:List Nat),LS m0 m b s sb out x T->sb.length=l.length->Cl l out->(∀ i,i<=id->sb.getD i false=decide (i∈out)) ->
 ∃ (m':af) (sb':List Bool) (x':AV) (T':List Nat),AC ae 124 [.int .i64 id,.ptr (b+3) 0,.ptr b 0,.ptr (b+4) 0,.ptr (b+1) 0] m=some (.tup [],m')/\LS m0 m' b s sb' (Vi l id out) x' T'/\sb'.length=l.length /\
  (∀ i,i<=id->sb'.getD i false=decide (i∈Vi l id out))/\∀ i,id < i->sb'.getD i false=sb.getD i false
theorem qp6 (g:GoodL ar l) {id:Nat} (hid:id < l.length) (eE:l.length<=100000) (ih:∀ k,k < id->PQ l m0 b s k) {z:Bool} {o:Own} {kids:List Int} (hk:∀ k∈kids,∃ t:Nat,k=t/\t < id) (fR:kids.length<=1000):∀ (j i:Nat) (m:af) (sb:List Bool) (out:List Nat) (x:AV) (T:List Nat),i+j=kids.length->LS m0 m b s sb out x T->sb.length=l.length->Cl l out->(∀ i,i < id->sb.getD i false=decide (i∈out)) ->
  ∃ (m':af) (sb':List Bool) (x':AV) (T':List Nat),Cg (.int .i64 id) (.ptr (b+4) 0) (.ptr (b+1) 0) (IA z o kids) (.int .i64 kids.length) (.int .i64 i) m (B8 (aE ae.P f124.results.toList))=B8 (aE ae.P f124.results.toList) (.exit 0) (KD (.int .i64 id) (.ptr (b+1) 0) m') /\
   LS m0 m' b s sb' (iw l (kids.drop i) out) x' T'/\sb'.length=l.length/\(∀ i,i < id->sb'.getD i false=decide (i∈iw l (kids.drop i) out)\/True)/\(∀ q,q < id->sb'.getD q false=decide (q∈iw l (kids.drop i) out))/\∀ q,id<=q->sb'.getD q false=sb.getD q false:=by
 intro j
 induction j with
 | zero=>
  intro i m sb out x T hi h mK hc wP
  refine ⟨m,sb,x,T,?_,?_,mK,fun _ _=>.inr trivial,?_,fun _ _=>rfl⟩
  ·rw[Qf,bh,aa,aA,ai (by omega)]
  ·rw[jo (by omega)];exact h
  ·rw[jo (by omega)];exact wP
 | succ j ihj=>
  intro i m sb out x T hi h mK hc wP;have b6:i < kids.length:=by omega
  obtain ⟨t,et,ht⟩:=hk _ (bS b6);obtain ⟨m1,sb1,x1,T1,e1,k1,k2,k3,k4⟩:=ih t ht m sb out x T h mK hc (fun q hq=>wP q (by omega));obtain ⟨c1,c2,r,c3,c4⟩:=qs g t (by omega) out hc
  have qml:∀ q,q < id->sb1.getD q false=decide (q∈Vi l t out):=fun q hq=>by
   by_cases hqt:q<=t
   ·exact k3 q hqt
   ·rw[k4 q (by omega),wP q hq];refine jS.2 ⟨fun hh=>by rw[c3];exact Ai _ hh,fun hh=>?_⟩;rw[c3] at hh
    rcases il.1 hh with hh | hh
    ·exact hh
    ·have:=c4 q hh;omega
  obtain ⟨m',sb',x',T',e2,n1,n2,_,n3,n4⟩:=ihj (i+1) m1 sb1 (Vi l t out) x1 T1 (by omega) k1 k2 c1 qml
  have ed:iw l (kids.drop i) out=iw l (kids.drop (i+1)) (Vi l t out):=by
   rw[kT b6,C2,et,cK]
  refine ⟨m',sb',x',T',?_,by rw[ed];exact n1,n2,fun _ _=>.inr trivial,by rw[ed];exact n3,fun q hq=>by rw[n4 q hq,k4 q (by omega)]⟩;have e1:AC ae 124 ([.int .i64 kids[i]]++[.ptr (b+3) 0,.ptr b 0,.ptr (b+4) 0,.ptr (b+1) 0]) m=some (.tup [],m1):=by rw[et];exact e1
  rw[Qf,bh,aa,aA,an (by omega),jB b6,aa,fV,aa,oZ h.h4,aa,show lH (.fn 124 [.ptr (b+3) 0,.ptr b 0,.ptr (b+4) 0,.ptr (b+1) 0])=some (124,[.ptr (b+3) 0,.ptr b 0,.ptr (b+4) 0,.ptr (b+1) 0]) from rfl,aa,tz rfl rfl rfl,e1,aa,cB (by omega),aa];exact e2
theorem Z4 (h0:dC m0 s F arms most l) (hb:b=m0.length) (g:GoodL ar l) (eE:l.length<=100000):∀ id,id < l.length->PQ l m0 b s id:=by
 intro id
 induction id using Nat.strongRecOn with
 | ind id ih=>
  intro hid m sb out x T h mK hc wP;have If:=wP id (aQ _);have ld3:=oZ h.h3;have M5:aH none (.arr (b+2) 0 sb.length none) (.int .i64 id)=some (.ptr (b+2) id):=fZ (by omega);have st:=h0.app h.fr;obtain ⟨p,na,TT,st,_⟩:=st;have hs:=st.hs;have yH:=Eo st.hn hid;have lb:=qmX h.h2 (i:=id) (by omega);have b2:=bF h.h2;have b4:=bF h.h4
  have hsm:s < m0.length:=by
   obtain ⟨p,na,TT,st0,_⟩:=h0;exact bF st0.hs
  by_cases hm:id∈out
  ·rw[dD hm] at If
   refine ⟨m,sb,x,T,?_,?_,mK,?_,fun _ _=>rfl⟩
   ·rw[RP,ld3,aa,M5,aa,lb,aa,If,mc]
   ·rw[tu g hid,an hm];exact h
   ·rw[tu g hid,an hm];exact wP
  ·rw[dd hm] at If;have sbq:=qo9 (y:=true) h.h2 (i:=id) (by omega)
   have h':LS m0 (m.set (b+2) (some (.obj false ((sb.set id true).map .bool)))) b s (sb.set id true) out x T:=by
    refine ⟨hb,h.fr.set _ (.inr (by omega)),?_,?_,?_,?_,?_,?_,h.hT⟩
    ·rw[cG (by omega)];exact h.h0
    ·rw[cG (by omega)];exact h.h1
    ·exact c8 rfl b2
    ·rw[cG (by omega),a8];exact h.h3
    ·rw[cG (by omega)];exact h.h4
    ·exact Uv h.gr fun y hy=>cG (by have:=h.hT y hy;omega)
   have qmk:∀ q,q < id->(sb.set id true).getD q false=decide (q∈out):=fun q hq=>by
    rw[aS,Ae (by omega),<- aS];exact wP q (by omega)
   have A1:=ua (st.ok _ (bS hid))
   have fR:l[id].kids.length<=1000:=by
    rcases st.ok _ (bS hid) with ⟨_,h2,_⟩ | ⟨_,_,_,_,h5⟩
    ·rw[h2];simp
    ·omega
   obtain ⟨m1,sb1,x1,T1,e1,k1,k2,_,k3,k4⟩:=qp6 g hid eE (fun k hk=>ih k hk (by omega)) (z:=kz l[id]) (o:=ko l[id]) (kids:=l[id].kids) (fun k hk=>pJ g hid k hk) fR l[id].kids.length 0 _ _ out x T (by omega) h' (by rw[a8];exact mK) hc qmk;rw[iR] at k1 k3;obtain ⟨c1,c2,r,c3,c4⟩:=Lz g hid l[id].kids (fun k hk=>pJ g hid k hk) out hc
   have iX:(iw l l[id].kids out).length<=l.length:=by
    exact sU _ _ c1.nd c1.lt
   obtain ⟨x2,m2,T2,ea,g2,f2,gg2⟩:=qlf k1.gr (by omega) id;have hne:∀ q,q < b+5->q∉T1:=fun q hq hT=>by have:=k1.hT q hT;omega
   have ge:∀ q,q < b+5->m2.get q=m1.get q:=fun q hq=>f2.get q (by have:=bF k1.h4;omega) (hne q hq);have nc:=bF k1.h4;have qqc:=f2.len;have g21:m2.get (b+1)=some (.obj true [x1]):=by rw[ge _ (by omega)];exact k1.h1
   have eV:Vi l id out=iw l l[id].kids out++[id]:=by rw[tu g hid,ai hm]
   have sx:aL none m2 (.ptr (b+1) 0) x2=some (m2.set (b+1) (some (.obj true [x2]))):=qpa g21 (Uw g2).1 (Uw g2).2
   refine ⟨m2.set (b+1) (some (.obj true [x2])),sb1,x2,T2,?_,?_,k2,?_,?_⟩
   ·rw[RP,ld3,aa,M5,aa,lb,aa,If,iC];rw[aa,M5,aa,sbq,aa,oZ h'.h0,aa,o9,aa,gI,aa]
    have ldna:aj none (m.set (b+2) (some (.obj false ((sb.set id true).map .bool)))) (.ptr s (0+1))=some na:=by
     rw[dQ,cG (by omega),hs];rfl
    rw[ldna,aa,yH,aa,Ui,aa,Wp,aa,A1,iE,aa];have e1:Cg (.int .i64 id) (.ptr (b+4) 0) (.ptr (b+1) 0) (IA (kz l[id]) (ko l[id]) l[id].kids) (.int .i64 l[id].kids.length) (.int .i64 0) (m.set (b+2) (some (.obj false ((sb.set id true).map .bool)))) (B8 (aE ae.P f124.results.toList))=_:=e1;rw[e1,qa7,oZ k1.h1,aa,rh,aa,ea,aa,sx,aa]
   ·rw[eV]
    refine ⟨hb,(Fr.trans k1.fr f2 fun y hy=>.inr (by have:=k1.hT y hy;omega)).set _ (.inr (by omega)),?_,?_,?_,?_,?_,?_,?_⟩
    ·rw[cG (by omega),ge _ (by omega)];exact k1.h0
    ·exact c8 rfl (by omega)
    ·rw[cG (by omega),ge _ (by omega)];exact k1.h2
    ·rw[cG (by omega),ge _ (by omega)];exact k1.h3
    ·rw[cG (by omega),ge _ (by omega)];exact k1.h4
    ·refine Uv g2 fun y hy=>cG ?_
     rcases gg2 y hy with hh | hh
     ·have:=k1.hT y hh;omega
     ·omega
    ·intro y hy
     rcases gg2 y hy with hh | hh
     ·exact k1.hT y hh
     ·omega
   ·intro q hq;rw[eV]
    by_cases VM:q=id
    ·subst VM;rw[k4 q (aQ _),aS,xI (by omega),dh];exact (dD (by simp)).symm
    ·rw[k3 q (by omega)];refine jS.2 ⟨fun hh=>Ai _ hh,fun hh=>?_⟩
     rcases il.1 hh with hh | hh
     ·exact hh
     ·exact absurd (by simpa using hh) VM
   ·intro q hq;rw[k4 q (by omega),aS,Ae (by omega),<- aS]
theorem qnf (m:af) (n:Nat) (h:n<=100000):iP none 4 none (.bool false) 1 m (.int .i64 n) (.int .i64 n)=some (.arr m.length 0 n none,m++[some (Ent.obj false ((List.replicate n false).map .bool))]):=by
 have h3:(n:Int) * 1<=281474976710656:=by omega
 have h4:(n:Int)<=9223372036854775807:=by omega
 have h5:(0:Int)<=n:=by omega
 simp only[iP,az,qQ,ql,bw,cK,List.map_replicate];rw[an ⟨h5,trivial,h3,h4⟩]
theorem JF (h0:dC m0 s F arms most l) (g:GoodL ar l) (eE:l.length<=100000) {id:Nat} (hid:id < l.length):∃ (m':af) (x:AV) (T:List Nat),AC ae 65 [.ptr s 0,.int .i64 id] m0=some (x,m')/\GA m' x (Vi l id []) T/\Fr m0 m' []/\∀ y∈T,m0.length<=y:=by
 have hx:=h0;obtain ⟨p,na,TT,h,_⟩:=hx;have hs:=h.hs;have mK:=bF hs
 have hlen:aO false na=some (.int .i64 l.length):=by
  cases h.hn with
  | none=>rfl
  | some t l ht=>rw[o0,bX]
 have mk:=fun m=>qnf m l.length eE;generalize hM:(List.set ((List.set (((m0++[some (Ent.obj true [.ptr s 0])])++[some (Ent.obj true [au])])++[some (Ent.obj false ((List.replicate l.length false).map .bool))]++[some (Ent.obj true [au])]) (m0.length+1+1+1) (some (Ent.obj true [.arr (m0.length+1+1) 0 l.length none])))++[some (Ent.obj true [.nilf])]) (m0.length+1+1+1+1) (some (Ent.obj true [.fn 124 [.ptr (m0.length+1+1+1) 0,.ptr m0.length 0,.ptr (m0.length+1+1+1+1) 0,.ptr (m0.length+1) 0]])))=M
 have ls:LS m0 M m0.length s (List.replicate l.length false) [] au []:=by
  rw[<- hM]
  refine ⟨rfl,?_,(by simp (disch:=(first | assumption | omega | (simp only[aI,a8,aJ,aP];first | done | omega))) only[gM,bY,bJ,cG,c8];first | done | rfl),(by simp (disch:=(first | assumption | omega | (simp only[aI,a8,aJ,aP];first | done | omega))) only[gM,bY,bJ,cG,c8];first | done | rfl),(by simp (disch:=(first | assumption | omega | (simp only[aI,a8,aJ,aP];first | done | omega))) only[gM,bY,bJ,cG,c8];first | done | rfl),?_,(by simp (disch:=(first | assumption | omega | (simp only[aI,a8,aJ,aP];first | done | omega))) only[gM,bY,bJ,cG,c8];first | done | rfl),.none,by simp⟩
  ·exact ((((((Fr.app m0 _ _).snoc _).snoc _).snoc _).set _ (.inr (by omega))).snoc _).set _ (.inr (by omega))
  ·rw[uy];exact (by simp (disch:=(first | assumption | omega | (simp only[aI,a8,aJ,aP];first | done | omega))) only[gM,bY,bJ,cG,c8];first | done | rfl)
 obtain ⟨m',sb',x',T',e,k1,_,_,_⟩:=Z4 h0 rfl g eE id hid M (List.replicate l.length false) [] au [] ls (by simp) ri (fun i hi=>by
  rw[aS,Ad,an (by omega)];rfl)
 refine ⟨m',x',T',?_,k1.gr,k1.fr,fun y hy=>by have:=k1.hT y hy;omega⟩;rw[T65]
 repeat ((with_reducible (first | apply bs | apply dJ));(focus (first | (simp (disch:=(first | assumption | omega | (simp only[aI,a8,aJ,aP];first | done | omega))) only[dH,beq_self_eq_true,cS,aa,Sh.size,bw,bP,Nat.reduceAdd,Nat.reduceLeDiff,aQ,hs,hlen,mk,pX];first | done | rfl) | rfl));try dsimp only)
 have en:(az none (m0++[some (Ent.obj true [.ptr s 0])]) .resv).1=m0.length+1:=by simp[nM]
 rw[tz rfl rfl rfl,hM,List.singleton_append,e,aa,en];dsimp only;rw[oZ k1.h1,aa]
end
end Go.Ab
namespace Go.Ab
open Go.Proofs Go.Proofs.Tryz
def pe:Nat->List Nat->List (AV×AV)
 | _,[]=>[]
 | k,i::l=>(.int .i64 i,.int .i64 k)::pe (k+1) l
theorem XT (n:Nat):∀ (l:List Nat) (k:Nat),pe k (l++[n])=pe k l++[(.int .i64 n,.int .i64 (k+l.length:Nat))]
 | [],k=>rfl
 | x::l,k=>by
  rw[cn,pe,pe,XT n l (k+1)];simp only[cn,aJ];congr 5;omega
theorem XU:∀ (l:List Nat) (k:Nat),(pe k l).length=l.length
 | [],_=>rfl
 | _::l,k=>by rw[pe,aJ,XU l,aJ]
theorem OK {n:Nat}:∀ (l:List Nat) (k:Nat),(pe k l).find? (fun p=>jj p.1 (.int .i64 n))=if n∈l then some (.int .i64 n,.int .i64 (k+l.idxOf n:Nat)) else none
 | [],k=>rfl
 | x::l,k=>by
  have hk:jj (.int .i64 (x:Int)) (.int .i64 (n:Int))=decide (x=n):=by
   simp only[jj,uK,decide_true,iL];exact jS.2 (by omega)
  rw[pe,List.find?_cons,hk]
  by_cases he:x=n
  ·subst he;simp
  ·rw[dd he];simp only[];rw[OK l (k+1)];have:n∈x::l↔n∈l:=⟨fun h=>(gE.1 h).resolve_left (fun e=>he e.symm),fJ _⟩
   by_cases hm:n∈l
   ·rw[an hm,an (this.2 hm),List.idxOf_cons,cond_eq_ite,ai (by simpa using he)];congr 3;omega
   ·rw[ai hm,ai (fun h=>hm (this.1 h))]
theorem Wh {n:Nat} (h:n<=1000000):jU (.int .i64) (.int .i64 n)=true:=by
 have h1:IntKind.min .i64<=(n:Int):=by show (-9223372036854775808:Int)<=n;omega
 have h2:(n:Int)<=IntKind.max .i64:=by show (n:Int)<=9223372036854775807;omega
 simp only[jU,nK,EU,dD h1,dD h2,decide_true,mV]
theorem qm8 {m:af} {p n:Nat} {l:List Nat} (hp:m.get p=some (.mp (.int .i64) (pe 0 l))) (hn:n<=1000000) (hm:n∈l) (z:AV):o8 (.int .i64) z m (.mref p) (.int .i64 n)=some (.int .i64 (l.idxOf n:Nat),true):=by
 have h1:mg m (.int .i64) (.mref p)=some (p,pe 0 l):=by simp[mg,hp]
 unfold o8;rw[h1];simp only[aa,Wh hn,bw,Bn,OK l 0,an hm,bp]
theorem qpV {m:af} {p n:Nat} {l:List Nat} (hp:m.get p=some (.mp (.int .i64) (pe 0 l))) (hn:n<=1000000) (hm:n∉l) (hl:l.length<=100000):kQ (.int .i64) m (.mref p) (.int .i64 n) (.int .i64 l.length)=some (m.set p (some (.mp (.int .i64) (pe 0 (l++[n]))))):=by
 have h1:mg m (.int .i64) (.mref p)=some (p,pe 0 l):=by simp[mg,hp]
 have h3:(pe 0 l).any (fun p=>jj p.1 (.int .i64 n))=false:=by
  have:=OK (n:=n) l 0;rw[ai hm,List.find?_eq_none] at this;rw[List.any_eq_false];exact this
 unfold kQ;rw[h1,aa,an ⟨Wh hn,rfl,by rw[XU];unfold maxLen;omega⟩,XT];simp only[nO,h3,bp]
theorem Xw {e:Nat} {m:af} {x:AV} {l:List ND} {T:List Nat} (h:NR e m x l T) (hl:l.length<=100000) (n:ND):∃ x' m' T',b8 none false e (some 3) 40 m x (.lst (some 3) false .full [n.av])=some (x',m')/\NR e m' x' (l++[n]) T'/\Fr m m' T/\Gr m T T':=by
 have h2:(l.length+1) * 40<=gG:=by unfold gG;omega
 cases h with
 | none=>
  refine ⟨.lst (some 3) false (.tok m.length e) [n.av],m++[some (Ent.tok 1 3)],[m.length],?_,.some _ [n] (by simp (disch:=(first | assumption | omega | (simp only[aI,a8,aJ,aP];first | done | omega))) only[gM,bY,bJ,cG,c8];first | done | rfl),Fr.app m _ _,fun k hk=>?_⟩
  ·have h2:40<=gG:=by unfold gG;omega
   simp[b8,h2,az,Sh.size]
  ·obtain rfl:k=m.length:=by simpa using hk
   exact .inr (aQ _)
 | some t es ht=>
  have gy:=bF ht
  refine ⟨.lst (some 3) false (.tok t e) (l.map ND.av++[n.av]),m.set t (some (Ent.tok (l.length+1) 3)),[t],?_,?_,(Fr.refl m [t]).set _ (.inl (by simp)),Gr.refl _ _⟩
  ·simp[b8,ht,Sh.size,h2]
  ·have e3:l.map ND.av++[n.av]=(l++[n]).map ND.av:=by simp
   rw[e3];refine .some t (l++[n]) ?_;rw[c8 rfl gy,aI];rfl
theorem Y8 {m:af} {x:AV} {ks:List Int} {T:List Nat} (h:GR 3 m x (ks.map (AV.int .i64)) T) {n:ND} (hk:n.kids=ks) (hn:n.ok) (hne:¬ n.var < 0->ks≠[]):∃ z o,x=.lst none z o (n.kids.map (AV.int .i64))/\qh (.lst none z o (n.kids.map (AV.int .i64)))=dP n:=by
 subst hk;generalize he:n.kids.map (AV.int .i64)=es at h
 cases h with
 | none=>
  refine ⟨true,.full,rfl,?_⟩;unfold dP
  rw[an]
  ·rfl
  ·refine Decidable.byContradiction fun hv=>hne hv (Ag.1 he)
 | some t es ht H7=>
  refine ⟨false,.tok t 3,rfl,?_⟩;unfold dP
  rw[ai,he]
  ·rfl
  ·intro hv
   rcases hn with ⟨_,h2,_⟩ | ⟨h1,_⟩
   ·rw[h2] at he;exact H7 he.symm
   ·omega
section
variable {m0:af} {s:Nat} {F:List Nat} {arms:AV} {most:Int} {l:List ND} {ar:List Int}
theorem qhi {pm c:Nat} {p:List Nat} {v leaf:Int} {kids:List Int} {x0:AV} (H9:p.length<=100000) (hpb:∀ y∈p,y<=1000000) {m1:af} (hc:c < m1.length) (A7:pm < m1.length) (hne:pm≠c) {z:Bool} {o:Own} (hk:∀ k∈kids,∃ t:Nat,k=t/\t∈p) (fR:kids.length<=1000) (hp:m1.get pm=some (.mp (.int .i64) (pe 0 p))) (x6 x7 bQ bU cD:AV) (hx6:x6=.mref pm) (K:KT):∀ (j i:Nat) (m:af) (x:AV) (T:List Nat),i+j=kids.length->Fr m1 m [c]->m.get c=some (.obj true [.int .i64 v,x,.int .i64 leaf])->GR 3 m x (((kids.take i).map fun k=>((p.idxOf k.toNat:Nat):Int)).map (AV.int .i64)) T->(∀ y∈T,m1.length<=y) ->
  ∃ (m':af) (x':AV) (T':List Nat),Cp x0 x6 x7 (.ptr c 0) bQ bU cD (IA z o kids) (.int .i64 kids.length) (.int .i64 i) m (B9 K)=B9 K (.exit 2) (K2 x0 x6 x7 (.ptr c 0) bQ bU cD m')/\Fr m1 m' [c]/\m'.get c=some (.obj true [.int .i64 v,x',.int .i64 leaf])/\GR 3 m' x' ((kids.map fun k=>((p.idxOf k.toNat:Nat):Int)).map (AV.int .i64)) T'/\∀ y∈T',m1.length<=y:=by
 subst hx6;intro j
 induction j with
 | zero=>
  intro i m x T hi f hg hr hT;rw[jQ (by omega)] at hr;refine ⟨m,x,T,?_,f,hg,hr,hT⟩;rw[QU,bh,aa,aA,ai (by omega)]
 | succ j ih=>
  intro i m x T hi f hg hr hT;have b6:i < kids.length:=by omega
  obtain ⟨t,et,ht⟩:=hk _ (bS b6);have hcl:=bF hg;have DS:m.get pm=some (.mp (.int .i64) (pe 0 p)):=(f.get _ A7 (by simpa using hne)).trans hp;have lk:=qm8 DS (hpb t ht) ht (.int .i64 0);obtain ⟨x2,m2,T2,ea,g2,f2,gg2⟩:=AJ (b:=8) hr (by simp;omega) (by omega) (.int .i64 (p.idxOf t:Nat));have hcT:c∉T:=fun h=>by have:=hT c h;omega
  have g2c:m2.get c=some (.obj true [.int .i64 v,x,.int .i64 leaf]):=(f2.get _ hcl hcT).trans hg;obtain ⟨xz,xo,rfl,_⟩:=Dw g2
  have st:aL none m2 (.ptr c (0+1)) (.lst none xz xo (((kids.take i).map fun k=>((p.idxOf k.toNat:Nat):Int)).map (AV.int .i64)++[.int .i64 (p.idxOf t:Nat)]))=some (m2.set c (some (.obj true [.int .i64 v,.lst none xz xo (((kids.take i).map fun k=>((p.idxOf k.toNat:Nat):Int)).map (AV.int .i64)++[.int .i64 (p.idxOf t:Nat)]),.int .i64 leaf]))):=by
   rw[qL,g2c,kD,aa];rfl
  have DE:=bF g2c
  have ek:(((kids.take i).map fun k=>((p.idxOf k.toNat:Nat):Int)).map (AV.int .i64)++[.int .i64 (p.idxOf t:Nat)])=((kids.take (i+1)).map fun k=>((p.idxOf k.toNat:Nat):Int)).map (AV.int .i64):=by
   rw[n7 b6,kU,kU,et];rfl
  obtain ⟨m',x',T',e,k⟩:=ih (i+1) (m2.set c (some (.obj true [.int .i64 v,.lst none xz xo (((kids.take i).map fun k=>((p.idxOf k.toNat:Nat):Int)).map (AV.int .i64)++[.int .i64 (p.idxOf t:Nat)]),.int .i64 leaf]))) _ T2 (by omega) ((Fr.trans f f2 fun y hy=>.inr (hT y hy)).set _ (.inl (by simp))) (c8 rfl DE) (by
   rw[<- ek]
   exact Dv g2 fun y hy=>cG (by
    rcases gg2 y hy with hh | hh
    ·have:=hT y hh;omega
    ·have:=f.len;omega)) (fun y hy=>by
   rcases gg2 y hy with hh | hh
   ·exact hT y hh
   ·have:=f.len;omega)
  refine ⟨m',x',T',?_,k⟩;have ldx:aj none m (.ptr c (0+1))=some x:=by rw[dQ,hg];rfl
  rw[QU,bh,aa,aA,an (by omega),jB b6,aa,fV,aa,gI,aa,ldx,aa,et,lk,aa,rh,aa,ea,aa,aa,st,aa,cB (by omega),aa];exact e
theorem Ep (g:GoodL ar l) (eE:l.length<=100000) {p:List Nat} (hp:p.length<=100000) {id:Nat} (hid:id < l.length):(nd l p id).ok:=by
 unfold nd;rw[js hid]
 rcases g.ok _ (bS hid) with ⟨a1,a2,a3⟩ | ⟨a1,a2,a3,a4,a5⟩
 ·refine .inl ⟨a1,?_,a3⟩;simp only[a2];rfl
 ·refine .inr ⟨a1,a2,a3,fun k hk=>?_,by simpa using a5⟩;obtain ⟨q,_,rfl⟩:=jf.1 hk;have:=List.idxOf_le_length (a:=q.toNat) (l:=p);omega
theorem qki {p q:List Nat} (h:Cl l (p++q)):Cl l p:=by
 refine ⟨(List.nodup_append.1 h.nd).1,fun j hj=>h.lt j (Ai _ hj),fun i hi hj k hk=>?_⟩;have hi2:i < (p++q).length:=by simp;omega
 have e:(p++q)[i]=p[i]:=List.getElem_append_left hi;have oV:(p++q)[i] < l.length:=by rw[e];exact hj
 have:=h.cl i hi2 oV k (by
  have:∀ (y:Nat) (hy:y < l.length),y=p[i]->k∈l[y].kids:=fun y hy ey=>by subst ey;exact hk
  exact this _ oV e)
 rwa [List.take_append_of_le_length (by omega)] at this
theorem W25 (h0:dC m0 s F arms most l) (g:GoodL ar l) (eE:l.length<=100000) (sG:Wl l) {pm t:Nat} (A7:m0.length=pm) (hpt:pm < t) {ids:List Nat} (hc:Cl l ids):∀ (q p:List Nat) (m:af) (y:AV) (T:List Nat),ids=p++q->Fr m0 m []->m.get pm=some (.mp (.int .i64) (pe 0 p))->NR 74 m y (dn l p) T->(∀ k∈T,t < k)->m.get t=some (.obj false (ds ids)) ->
  ∃ (m':af) (y':AV) (T':List Nat),Gt (.ptr s 0) (.mref pm) y (.arr t 0 ids.length none) (.int .i64 ids.length) (.int .i64 p.length) m (Ca (aE ae.P f43.results.toList))=some (.tup [y',.int .i64 0],m')/\NR 74 m' y' (dn l ids) T'/\Fr m0 m' []:=by
 have b6:ids.length<=l.length:=sU _ _ hc.nd hc.lt;intro q
 induction q with
 | nil=>
  intro p m y T gg f DS hn hT ht;rw[cm] at gg;subst gg;refine ⟨m,y,T,?_,hn,f⟩;rw[QV,bh,aa,aA,ai (by omega),qdL]
 | cons id q ihq=>
  intro p m y T gg f DS hn hT ht;have HU:Cl l p:=by rw[gg] at hc;exact qki hc
  have hid:id < l.length:=hc.lt id (by rw[gg];simp);have qma:p.length < ids.length:=by rw[gg];simp
  have Nk:id∉p:=fun h=>by
   rw[gg] at hc;exact (List.nodup_append.1 hc.nd).2.2 id h id fN rfl
  have tN:∀ k∈l[id].kids,k.toNat∈p:=fun k hk=>by
   rw[gg] at hc;have e:(p++id::q)[p.length]'(by simp)=id:=by simp
   have:=hc.cl p.length (by simp) (by rw[e];exact hid) k (by
    have:∀ (y:Nat) (hy:y < l.length),y=id->k∈l[y].kids:=fun y hy ey=>by subst ey;exact hk
    exact this _ _ e)
   simpa using this
  have gW:aH none (.arr t 0 ids.length none) (.int .i64 p.length)=some (.ptr t p.length):=fZ qma
  have wH:aj none m (.ptr t p.length)=some (.int .i64 id):=by
   rw[dQ,ht,kD,aa,uP];exact HF (by rw[gg];simp)
  have gy:=bF ht;have qql:=bF DS;have up:=qpV DS (n:=id) (by omega) Nk (by omega);have st:=h0.app f;obtain ⟨pp,na,TT,st,hFF⟩:=st;have hs:=st.hs;have hsm:s < m0.length:=h0.lt s (by rw[hFF];simp);have yH:=Eo st.hn hid;have A1:=ua (st.ok _ (bS hid))
  have fR:l[id].kids.length<=1000:=by
   rcases st.ok _ (bS hid) with ⟨_,h2,_⟩ | ⟨_,_,_,_,h5⟩
   ·rw[h2];simp
   ·omega
  have hb:gm (.agg [(.int .i64 0),au,(.int .i64 0)]) [(0,none,.int .i64 l[id].var),(2,none,.int .i64 l[id].leaf)]=some (.agg [.int .i64 l[id].var,au,.int .i64 l[id].leaf]):=rfl;generalize hM:List.set (List.set ((m.set pm (some (.mp (.int .i64) (pe 0 (p++[id])))))++[some Ent.resv]) m.length (some (Ent.obj true [.int .i64 0,au,.int .i64 0]))) m.length (some (Ent.obj true [.int .i64 l[id].var,au,.int .i64 l[id].leaf]))=M
  have fM:Fr m0 M []:=by
   rw[<- hM];exact (((f.set _ (.inr (by omega))).snoc _).set _ (.inr (by omega))).set _ (.inr (by omega))
  have lM:M.length=m.length+1:=by rw[<- hM];simp
  have fM2:Fr m M [pm]:=by
   rw[<- hM];exact ((((Fr.refl m [pm]).set _ (.inl (by simp))).snoc _).set _ (.inr (by omega))).set _ (.inr (by omega))
  have gc:af.get M m.length=some (Ent.obj true [.int .i64 l[id].var,au,.int .i64 l[id].leaf]):=by rw[<- hM];exact (by simp (disch:=(first | assumption | omega | (simp only[aI,a8,aJ,aP];first | done | omega))) only[gM,bY,bJ,cG,c8];first | done | rfl)
  have gp:af.get M pm=some (.mp (.int .i64) (pe 0 (p++[id]))):=by rw[<- hM];exact (by simp (disch:=(first | assumption | omega | (simp only[aI,a8,aJ,aP];first | done | omega))) only[gM,bY,bJ,cG,c8];first | done | rfl)
  have qlN:∀ k∈l[id].kids,∃ t:Nat,k=t/\t∈p++[id]:=fun k hk=>by
   obtain ⟨t,rfl,_⟩:=pJ g hid k hk;exact ⟨t,rfl,Ai _ (by simpa using tN _ hk)⟩
  obtain ⟨m2,xk,Tk,e13,f2,gc2,gk,uU⟩:=qhi (x0:=.ptr s 0) (pm:=pm) (c:=m.length) (p:=p++[id]) (v:=l[id].var) (leaf:=l[id].leaf) (kids:=l[id].kids) (z:=kz l[id]) (o:=ko l[id]) (m1:=M) (by simp;omega) (fun y hy=>by
   have:y < l.length:=by
    rcases il.1 hy with h | h
    ·exact HU.lt y h
    ·obtain rfl:y=id:=by simpa using h
     exact hid
   omega) (by omega) (by omega) (by omega) qlN fR gp (.mref pm) y (.arr t 0 ids.length none) (.int .i64 ids.length) (.int .i64 p.length) rfl (Ca (aE ae.P f43.results.toList)) l[id].kids.length 0 M _ [] (by omega) (Fr.refl _ _) gc .none (by simp)
  have qlV:(nd l p id).kids=l[id].kids.map fun k=>(((p++[id]).idxOf k.toNat:Nat):Int):=by
   rw[<- Oq hid tN [id]];unfold nd;rw[js hid]
  have DP:(nd l p id).var=l[id].var/\(nd l p id).leaf=l[id].leaf:=by
   unfold nd;rw[js hid];exact ⟨rfl,rfl⟩
  have bg:=Ep g eE (p:=p) (by omega) hid
  obtain ⟨kz',ko',rfl,NF⟩:=Y8 gk qlV bg (fun hv=>by
   rw[DP.1] at hv;have:=sG _ (bS hid) hv
   simpa using this)
  have ov:=Hp l[id].var l[id].leaf kz' ko' ((nd l p id).kids.map (AV.int .i64));rw[NF,<- DP.1,<- DP.2] at ov;have ov:dO (some 3) [.agg [.int .i64 (nd l p id).var,.lst none kz' ko' ((nd l p id).kids.map (AV.int .i64)),.int .i64 (nd l p id).leaf]]=some (.lst (some 3) false .full [(nd l p id).av]):=ov
  have fm2:Fr m m2 [pm]:=Fr.trans fM2 f2 fun x hx=>by
   obtain rfl:x=m.length:=by simpa using hx
   exact .inr (aQ _)
  have n2:NR 74 m2 y (dn l p) T:=vB hn fun k hk=>fm2.get k (vA hn k hk) (by have:=hT k hk;simp;omega);obtain ⟨y3,m3,T3,ea,n3,f3,gg3⟩:=Xw n2 (by unfold dn;rw[bX];omega) (nd l p id);rw[<- Xc HU hid tN] at n3
  have f03:Fr m0 m3 []:=Fr.trans (Fr.trans fM f2 fun x hx=>by
   obtain rfl:x=m.length:=by simpa using hx
   have:=f.len
   exact .inr this) f3 fun x hx=>.inr (by have:=hT x hx;omega)
  have lm2:=f2.len
  have gp3:m3.get pm=some (.mp (.int .i64) (pe 0 (p++[id]))):=by
   rw[f3.get pm (by omega) (fun h=>by have:=hT pm h;omega),f2.get pm (by omega) (by simp;omega)];exact gp
  obtain ⟨m',y',T',e,k⟩:=ihq (p++[id]) m3 y3 T3 (by rw[gg,gA];rfl) f03 gp3 n3 (fun x hx=>by
   rcases gg3 x hx with hh | hh
   ·exact hT x hh
   ·omega) (by
   rw[f3.get t (by omega) (fun h=>by have:=hT t h;omega),f2.get t (by omega) (by simp;omega),<- hM]
   exact (by simp (disch:=(first | assumption | omega | (simp only[aI,a8,aJ,aP];first | done | omega))) only[gM,bY,bJ,cG,c8,ht];first | done | rfl))
  refine ⟨m',y',T',?_,k⟩
  have ld3:aj (some 3) m2 (.ptr m.length 0)=some (.agg [.int .i64 (nd l p id).var,.lst none kz' ko' ((nd l p id).kids.map (AV.int .i64)),.int .i64 (nd l p id).leaf]):=by
   rw[dQ,gc2,DP.1,DP.2];rfl
  have e13:Cp (.ptr s 0) (.mref pm) y (.ptr m.length 0) (.arr t 0 ids.length none) (.int .i64 ids.length) (.int .i64 p.length) (IA (kz l[id]) (ko l[id]) l[id].kids) (.int .i64 l[id].kids.length) (.int .i64 0) M (B9 (Ca (aE ae.P f43.results.toList)))=_:=e13;rw[QV,bh,aa,aA,an (by omega)]
  repeat ((with_reducible (first | apply bs | apply dJ));(focus (first | (simp (disch:=(first | assumption | omega | (simp only[aI,a8,aJ,aP];first | done | omega))) only[dH,beq_self_eq_true,cS,aa,Sh.size,bw,bP,Nat.reduceAdd,Nat.reduceLeDiff,aQ,gW,wH,up,hs,yH,Mh,Ui,f2v,Wp,hb,Es,A1,iE];first | done | rfl) | rfl));try dsimp only)
  have en:(az (some (List.set m pm (some (Ent.mp (.int .i64) (pe 0 (p++[id]))))).length) (cU (List.set m pm (some (Ent.mp (.int .i64) (pe 0 (p++[id]))))) 1) .resv).1=m.length:=by rw[Es];simp
  rw[en,hM,e13,qdI,ld3,aa,ov,aa,ea,aa,cB (by omega),aa];rw[aI] at e;exact e
theorem UC (g:GoodL ar l):Wl l:=fun n hn hv=>by
 obtain ⟨i,hi,rfl⟩:=pv hn;obtain ⟨k,hk,_⟩:=g.dif i hi (by omega);exact List.ne_nil_of_mem hk
theorem ZR (h0:dC m0 s F arms most l) (g:GoodL ar l) (eE:l.length<=100000) (hm:most≠0) {id:Nat} (hid:id < l.length):∃ (m':af) (y:AV) (T:List Nat),AC ae 43 [.ptr s 0,.int .i64 id] m0=some (.tup [y,.int .i64 0],m')/\NR 74 m' y (dn l (Vi l id [])) T/\Fr m0 m' []:=by
 have e50:=B0 h0 hm;have e56:=JD h0 id;rw[dD (by omega)] at e56;have f1:=Fr.app m0 (some (Ent.mp (.int .i64) [])) [];obtain ⟨m1,x,T,e61,gx,f2,hT1⟩:=JF (h0.app f1) g eE hid;have f3:Fr m0 m1 []:=Fr.trans f1 f2 fun _ h=>by cases h
 obtain ⟨c1,_,_⟩:=qs g id hid [] ri
 have gp:m1.get m0.length=some (.mp (.int .i64) (pe 0 [])):=by
  rw[f2.get _ (by simp) (by simp)];exact (by simp (disch:=(first | assumption | omega | (simp only[aI,a8,aJ,aP];first | done | omega))) only[gM,bY,bJ,cG,c8];first | done | rfl)
 have e65:AC ae 65 [.ptr s 0,.int .i64 id] (az none m0 (.mp (.int .i64) [])).2=_:=e61;rw[T43,e50,aa,iC,e56,aa,rI,aa,kS,iC,e65,aa];generalize hV:Vi l id []=ids at gx c1 ⊢
 cases gx with
 | none=>
  have:id∈Vi l id []:=by rw[tu g hid,ai (by simp)];simp
  rw[hV] at this;cases this
 | some t ids ht hne=>
  have gy:=hT1 t (by simp);obtain ⟨m',y,T',e,k⟩:=W25 h0 g eE (UC g) (pm:=m0.length) (t:=t) rfl (by simp at gy;omega) c1 ids [] m1 au [] rfl f3 gp .none (by simp) ht;refine ⟨m',y,T',?_,k⟩;rw[show aO false (.arr t 0 ids.length none)=some (.int .i64 ids.length) from rfl,aa];exact e
end
end Go.Ab
namespace Go.Ab
theorem Pb (ns:List Int):(nT ns).length=ns.length:=List.length_mergeSort _
theorem qo7 (ns:List Int) (x:Int):x∈nT ns↔x∈ns:=by
 unfold nT;exact List.mem_mergeSort
theorem LZ (zs:List Int):(Lib.compact zs).length<=zs.length:=by
 unfold Lib.compact Lib.compactUpTo;rw[bX];have:=List.length_filter_le (Lib.keeps zs.toArray) (List.range zs.length)
 rwa [List.length_range] at this
theorem Dt {zs:List Int} {j:Nat} (h:j < zs.length):zs.toArray[j]! = zs[j]:=by simp[h]
theorem Wd (zs:List Int) (j:Nat):Lib.keeps zs.toArray j=true↔j=0\/zs.toArray[j]!≠zs.toArray[j - 1]!:=by
 unfold Lib.keeps;simp
theorem qko {zs:List Int} (x:Int):x∈Lib.compact zs↔x∈zs:=by
 unfold Lib.compact Lib.compactUpTo;rw[jf]
 constructor
 ·rintro ⟨j,hj,rfl⟩
  have lP:j < zs.length:=by
   have:=(rX.1 hj).1;simpa using this
  rw[Dt lP];exact bS lP
 ·intro hx;obtain ⟨i,hi,e⟩:=pv hx
  have key:∀ i,(hi:i < zs.length)->∃ j,j < zs.length/\Lib.keeps zs.toArray j=true/\zs.toArray[j]! = zs[i]:=by
   intro i
   induction i with
   | zero=>intro hi;exact ⟨0,hi,(Wd zs 0).2 (.inl rfl),Dt hi⟩
   | succ i ih=>
    intro hi
    by_cases hk:Lib.keeps zs.toArray (i+1)=true
    ·exact ⟨i+1,hi,hk,Dt hi⟩
    ·have fQ:i < zs.length:=by omega
     obtain ⟨j,h1,h2,h3⟩:=ih fQ;refine ⟨j,h1,h2,h3.trans ?_⟩;rw[Wd] at hk;have h4:zs.toArray[i+1]! = zs.toArray[i]!:=qj fun hne=>hk (.inr (by rw[pw];exact hne));rw[Dt hi,Dt fQ] at h4;exact h4.symm
  obtain ⟨j,h1,h2,h3⟩:=key i hi;exact ⟨j,rX.2 ⟨by simpa using h1,h2⟩,h3.trans e⟩
def qN (ns:List Int):List Int:=Lib.compact (nT ns)
theorem qpF:qN []=[]:=by
 refine oN ?_;have h1:=LZ (nT []);have h2:=Pb [];unfold qN;simp only[aP] at h2;omega
theorem Zl (ns:List Int) (x:Int):x∈qN ns↔x∈ns:=by unfold qN;rw[qko,qo7]
end Go.Ab
namespace Go.Ab
open Go.Proofs Go.Proofs.Tryz
def vT (B:Nat) (m:af) (x:AV) (ns:List Int):Prop:=(x=au/\ns=[])\/∃ t,x=.arr t 0 ns.length none/\0 < ns.length/\m.get t=some (.obj false (ns.map (AV.int .i64)))/\B<=t
theorem vT.move {B:Nat} {m m':af} {x:AV} {ns:List Int} (h:vT B m x ns) (hm:∀ t,x=.arr t 0 ns.length none->t < m.length->m'.get t=m.get t):vT B m' x ns:=by
 rcases h with h | ⟨t,hx,h1,h2,h3⟩
 ·exact .inl h
 ·exact .inr ⟨t,hx,h1,by rw[hm t hx (bF h2)];exact h2,h3⟩
theorem qnS {B:Nat} {m:af} {x:AV} {ns:List Int} (h:vT B m x ns) (hl:ns.length<=100000) (hB:B<=m.length) (v:Int):∃ x' m',b8 none true 3 none 8 m x (.lst none false .full [.int .i64 v])=some (x',m')/\vT B m' x' (ns++[v])/\m.length<=m'.length/\∀ y,y < m.length->(∀ t,x=.arr t 0 ns.length none->y≠t)->m'.get y=m.get y:=by
 rcases h with ⟨rfl,rfl⟩ | ⟨t,rfl,iO,hg,htB⟩
 ·have ha:b8 none true 3 none 8 m au (.lst none false .full [.int .i64 v])=some (.arr m.length 0 1 none,m++[some (.obj false [.int .i64 v])]):=by
   simp only[b8,aP,aJ,bp,bw,or_true,bV,az]
   rfl
  exact ⟨_,_,ha,.inr ⟨m.length,by simp,by simp,by rw[bJ rfl];rfl,hB⟩,by simp,fun y hy _=>bY hy⟩
 ·have gy:=bF hg;have ho:m.obj? t=some (false,ns.map (AV.int .i64)):=by rw[oL,hg];rfl
  have hY:w9 m none (.lst none false .full [.int .i64 v])=some (1,[.int .i64 v]):=rfl
  have hX:sY m none (.arr t 0 ns.length none)=some (ns.length,ns.map (AV.int .i64),m.set t none):=by
   simp only[sY,ho,aa];rw[an ⟨trivial,trivial,iO,trivial,by simp[Sh.size]⟩]
  have ha:b8 none true 3 none 8 m (.arr t 0 ns.length none) (.lst none false .full [.int .i64 v])=some (.arr (m.set t none).length 0 (ns.length+1) none,(m.set t none)++[some (.obj false (ns.map (AV.int .i64)++[.int .i64 v]))]):=by
   simp only[b8,sc,hY,hX,aa];rw[an (show (ns.length+1) * 8<=gG by unfold gG;omega)]
  have iN:(m.set t (none:Option Ent)).length=m.length:=a8;refine ⟨_,_,ha,.inr ⟨(m.set t none).length,by simp,by simp,by rw[bJ rfl,kU];rfl,by rw[iN];exact hB⟩,by simp,fun y hy hne=>?_⟩;rw[bY (by rw[iN];exact hy),cG (hne t rfl)]
def G4 (B:Nat) (m:af) (y:AV) (rs:List Int):Prop:=(y=au/\rs=[])\/∃ t zs,y=.arr t 0 rs.length none/\m.get t=some (.obj false ((rs++zs).map (AV.int .i64)))/\B<=t
section
variable {s:Nat} {F:List Nat} {arms:AV} {most:Int} {l:List ND}
theorem Z8 (n:ND) (m:af):AC ae 106 [n.av] m=some (.tup [.int .i64 n.leaf,.bool (decide (n.var < 0))],m++[some (Ent.obj true [.int .i64 n.var,dP n,.int .i64 n.leaf])]):=by
 have e:c9 (some 3) n.av=true:=by unfold ND.av dP;split<;>rfl
 have hb:dI none (some 3) m n.av=some (.ptr m.length 0,m++[some (Ent.obj true [.int .i64 n.var,dP n,.int .i64 n.leaf])]):=by
  unfold dI;rw[an e];rfl
 have l0:aj none (m++[some (Ent.obj true [.int .i64 n.var,dP n,.int .i64 n.leaf])]) (.ptr m.length (0+0))=some (.int .i64 n.var):=by
  rw[dQ,bJ rfl];rfl
 have l2:aj none (m++[some (Ent.obj true [.int .i64 n.var,dP n,.int .i64 n.leaf])]) (.ptr m.length (0+2))=some (.int .i64 n.leaf):=by
  rw[dQ,bJ rfl];rfl
 rw[qfC,hb,aa,gI,aa,l2,aa,gI,aa,l0,aa,bh,aa]
theorem qlg {ar:List Int} {m:af} {x:AV} {T:List Nat} (g:GoodL ar l) {id:Nat} (hid:id < l.length) (h:GA m x (Vi l id []) T):∃ t,x=.arr t 0 (Vi l id []).length none/\m.get t=some (.obj false (ds (Vi l id []))):=by
 generalize hV:Vi l id []=ids at h
 cases h with
 | none=>
  have:id∈Vi l id []:=by rw[tu g hid,ai (by simp)];simp
  rw[hV] at this;cases this
 | some t ids ht hne=>exact ⟨t,rfl,ht⟩
def mQ (val:ND->Int) (keep:ND->Bool) (l:List ND) (ids:List Nat):List Int:=(ids.filter fun i=>keep (l.getD i ⟨0,[],0⟩)).map fun i=>val (l.getD i ⟨0,[],0⟩)
theorem Zh (val:ND->Int) (keep:ND->Bool) (l:List ND) (p:List Nat) (i:Nat):mQ val keep l (p++[i])=mQ val keep l p++(if keep (l.getD i ⟨0,[],0⟩)=true then [val (l.getD i ⟨0,[],0⟩)] else []):=by
 unfold mQ;rw[List.filter_append,kU,List.filter_cons,List.filter_nil];congr 1;split<;>rfl
theorem X21 {cf:Nat} {val:ND->Int} {keep:ND->Bool} (c1:((ae.lib cf).isNone && (ae.libm cf).isNone)=true) (c2:ae.inl 104 cf=true) (c3:ae.thaw 104 cf=false) (c4:ae.frzc 104 cf=false) (sy:∀ (n:ND) m,AC ae cf [n.av] m=some (.tup [.int .i64 (val n),.bool (keep n)],m++[some (Ent.obj true [.int .i64 n.var,dP n,.int .i64 n.leaf])]))
  {m0:af} (h0:dC m0 s F arms most l) {ids:List Nat} (uY:∀ i∈ids,i < l.length) (b6:ids.length<=100000) {t:Nat} (ht:m0.get t=some (.obj false (ds ids))):∀ (q p:List Nat) (m:af) (x:AV),ids=p++q->Fr m0 m []->vT m0.length m x (mQ val keep l p) ->
  ∃ m' x',vN (.ptr s 0) (.fn cf []) x (.arr t 0 ids.length none) (.int .i64 ids.length) (.int .i64 p.length) m (vL (aE ae.P f104.results.toList))=vL (aE ae.P f104.results.toList) (.exit 0) (GI x' m')/\Fr m0 m' []/\vT m0.length m' x' (mQ val keep l ids):=by
 intro q
 induction q with
 | nil=>
  intro p m x gg f hx;rw[cm] at gg;subst gg;refine ⟨m,x,?_,f,hx⟩;rw[P8,cX,aa,aA,ai (by omega)]
 | cons i q ih=>
  intro p m x gg f hx;have hpl:p.length < ids.length:=by rw[gg];simp
  have iT:ids[p.length]=i:=by simp[gg]
  have hi:i < l.length:=uY i (by rw[gg];simp);have gW:aH none (.arr t 0 ids.length none) (.int .i64 p.length)=some (.ptr t p.length):=fZ hpl
  have wH:aj none m (.ptr t p.length)=some (.int .i64 (i:Nat)):=by
   rw[dQ,f.get t (bF ht) (by simp),ht,kD,aa,uP];exact HF (by rw[gg];simp)
  have gK:=h0.app f;obtain ⟨p0,na,TT,st,_⟩:=gK;have Io:aj none m (.ptr s (0+1))=some na:=by rw[dQ,st.hs];rfl
  have yH:=Eo st.hn hi;have ldv:aj (some 3) m (.vptr [.int .i64 l[i].var,dP l[i],.int .i64 l[i].leaf])=some l[i].av:=rfl;have hc:=sy l[i] m;have jz:l.getD i ⟨0,[],0⟩=l[i]:=js hi;have f1:Fr m0 (m++[some (Ent.obj true [.int .i64 l[i].var,dP l[i],.int .i64 l[i].leaf])]) []:=f.snoc _;have hx1:vT m0.length (m++[some (Ent.obj true [.int .i64 l[i].var,dP l[i],.int .i64 l[i].leaf])]) x (mQ val keep l p):=hx.move fun t _ ht=>bY ht;have VI:(p++[i]).length=p.length+1:=by simp
  have gy:(mQ val keep l p).length<=100000:=by
   unfold mQ;rw[bX];have:=List.length_filter_le (fun i=>keep (l.getD i ⟨0,[],0⟩)) p;omega
  have Bb:vN (.ptr s 0) (.fn cf []) x (.arr t 0 ids.length none) (.int .i64 ids.length) (.int .i64 p.length) m (vL (aE ae.P f104.results.toList))=aw (.bool (keep l[i])) ((b8 none true 3 none 8 (m++[some (Ent.obj true [.int .i64 l[i].var,dP l[i],.int .i64 l[i].leaf])]) x (.lst none false .full [.int .i64 (val l[i])])).bind fun nP=>vN (.ptr s 0) (.fn cf []) nP.1 (.arr t 0 ids.length none) (.int .i64 ids.length) (.int .i64 (p.length+1:Nat)) nP.2 (vL (aE ae.P f104.results.toList))) (vN (.ptr s 0) (.fn cf []) x (.arr t 0 ids.length none) (.int .i64 ids.length) (.int .i64 (p.length+1:Nat)) (m++[some (Ent.obj true [.int .i64 l[i].var,dP l[i],.int .i64 l[i].leaf])]) (vL (aE ae.P f104.results.toList))):=by
   rw[P8,cX,aa,aA,an hpl,gW,aa,wH,aa,o9,aa,gI,aa,Io,aa,yH,aa,ldv,aa,show lH (.fn cf [])=some (cf,[]) from rfl,aa,tz c1 c2 c3 c4,cm,hc,aa,rj,aa,rl,aa,cB (by omega),rh,aa]
   rfl
  cases hk:keep l[i] with
  | true=>
   obtain ⟨x2,m2,ea,hx2,hlen,ow⟩:=qnS hx1 gy (by have:=f1.len;omega) (val l[i])
   have f2:Fr m0 m2 []:=⟨by have:=f1.len;omega,fun y hy _=>by
    have hl:=f1.len
    rw[ow y (by omega) (fun t ht e=>by
     rcases hx1 with ⟨h1,_⟩ | ⟨t',h1,_,_,h4⟩
     ·rw[h1] at ht;cases ht
     ·rw[h1] at ht;cases ht;omega)]
    exact f1.get y hy (by simp)⟩
   have MR:mQ val keep l (p++[i])=mQ val keep l p++[val l[i]]:=by
    rw[Zh,jz,hk,an rfl]
   obtain ⟨m',x',e,k1,k2⟩:=ih (p++[i]) m2 x2 (by rw[gg,gA];rfl) f2 (by rw[MR];exact hx2);refine ⟨m',x',?_,k1,k2⟩;rw[VI] at e;rw[Bb,hk,mc,ea,aa];exact e
  | false=>
   have MR:mQ val keep l (p++[i])=mQ val keep l p:=by
    rw[Zh,jz,hk,ai (by simp),cm]
   obtain ⟨m',x',e,k1,k2⟩:=ih (p++[i]) _ x (by rw[gg,gA];rfl) f1 (by rw[MR];exact hx1);refine ⟨m',x',?_,k1,k2⟩;rw[VI] at e;rw[Bb,hk,iC];exact e
theorem Z7 {cf:Nat} {val:ND->Int} {keep:ND->Bool} (c1:((ae.lib cf).isNone && (ae.libm cf).isNone)=true) (c2:ae.inl 104 cf=true) (c3:ae.thaw 104 cf=false) (c4:ae.frzc 104 cf=false) (sy:∀ (n:ND) m,AC ae cf [n.av] m=some (.tup [.int .i64 (val n),.bool (keep n)],m++[some (Ent.obj true [.int .i64 n.var,dP n,.int .i64 n.leaf])]))
  {m0:af} {ar:List Int} (h0:dC m0 s F arms most l) (hm:most≠0) (g:GoodL ar l) (eE:l.length<=100000) {id:Nat} (hid:id < l.length) :
  ∃ m' y,AC ae 104 [.ptr s 0,.int .i64 id,.fn cf []] m0=some (.tup [y,.int .i64 0],m')/\Fr m0 m' []/\G4 m0.length m' y (qN (mQ val keep l (Vi l id []))):=by
 have e50:=B0 h0 hm;have e56:=JD h0 id;rw[dD (by omega)] at e56;obtain ⟨m1,x,T,e61,DK,f1,_⟩:=JF h0 g eE hid;obtain ⟨cc1,cc2,_⟩:=qs g id hid [] ri;obtain ⟨t0,rfl,NH⟩:=qlg g hid DK;have fS:=sU _ _ cc1.nd cc1.lt;have st1:=h0.app f1;obtain ⟨m2,x2,e,f2,hx2⟩:=X21 c1 c2 c3 c4 sy st1 (ids:=Vi l id []) cc1.lt (by omega) NH (Vi l id []) [] m1 au rfl (Fr.refl _ _) (.inl ⟨rfl,rfl⟩);have qlR:aO false (.arr t0 0 (Vi l id []).length none)=some (.int .i64 (Vi l id []).length):=rfl;have f12:Fr m0 m2 []:=Fr.trans f1 f2 fun _ hh=>by cases hh
 have nc:=f1.len;have iX:=f2.len
 have e0:AC ae 104 [.ptr s 0,.int .i64 id,.fn cf []] m0=vL (aE ae.P f104.results.toList) (.exit 0) (GI x2 m2):=by
  have e61:AC ae 65 [.ptr s 0,.int .i64 id] m0=some (.arr t0 0 (Vi l id []).length none,m1):=e61;rw[qfB,e50,aa,iC,e56,aa,rI,aa,kS,iC,e61,aa,qlR,aa];exact e
 rw[e0,qaj];generalize hns:mQ val keep l (Vi l id [])=ns at *
 have oC:ns.length<=100000:=by
  rw[<- hns];unfold mQ;rw[bX];have:=List.length_filter_le (fun i=>keep (l.getD i ⟨0,[],0⟩)) (Vi l id []);omega
 rcases hx2 with ⟨rfl,rfl⟩ | ⟨t,rfl,iO,hg,htB⟩
 ·exact ⟨m2,_,rfl,f12,.inl ⟨rfl,qpF⟩⟩
 ·have gy:=bF hg;have ho:m2.obj? t=some (false,ns.map (AV.int .i64)):=by rw[oL,hg];rfl
  have es:zn [.arr t 0 ns.length none] m2=some (.tup [],m2.set t (some (.obj false ((nT ns).map (AV.int .i64))))):=by
   simp only[zn,ho,aa];rw[an ⟨trivial,trivial,iO,by simp,by omega⟩,NT];rfl
  have ow:af.get (m2.set t (some (.obj false ((nT ns).map (AV.int .i64))))) t=some (.obj false ((nT ns).map (AV.int .i64))):=c8 rfl gy;have ho2:af.obj? (m2.set t (some (.obj false ((nT ns).map (AV.int .i64))))) t=some (false,(nT ns).map (AV.int .i64)):=by rw[oL,ow];rfl
  have mK:=Pb ns
  have ec:xZ [.arr t 0 ns.length none] (m2.set t (some (.obj false ((nT ns).map (AV.int .i64)))))=some (.arr t 0 (qN ns).length none,m2.set t (some (.obj false ((qN ns++List.replicate ((nT ns).length - (qN ns).length) 0).map (AV.int .i64))))):=by
   simp only[xZ,ho2,aa];rw[an ⟨trivial,trivial,iO,by rw[bX,mK],by omega⟩,NT,aR,xL];rfl
  refine ⟨_,_,by rw[es,aa,ec,aa],⟨by rw[a8];exact f12.len,fun y hy _=>?_⟩,.inr ⟨t,List.replicate ((nT ns).length - (qN ns).length) 0,rfl,c8 rfl gy,by omega⟩⟩;rw[cG (by omega)];exact f12.get y hy (by simp)
theorem Z6 {m0:af} {ar:List Int} (h0:dC m0 s F arms most l) (hm:most≠0) (g:GoodL ar l) (eE:l.length<=100000) {id:Nat} (hid:id < l.length) :
  ∃ m' y,AC ae 41 [.ptr s 0,.int .i64 id] m0=some (.tup [y,.int .i64 0],m')/\Fr m0 m' []/\G4 m0.length m' y (qN (mQ (fun n=>n.leaf) (fun n=>decide (n.var < 0)) l (Vi l id []))):=by
 obtain ⟨m',y,e,h1,h2⟩:=Z7 (cf:=106) rfl rfl rfl rfl Z8 h0 hm g eE hid;exact ⟨m',y,by rw[T41,e,aa,rj,aa,rl,aa],h1,h2⟩
end
end Go.Ab
namespace Go.Ab
noncomputable section
open Go.Proofs.Tryz
def KE (x5:AV) (m:af):St:=⟨(aM (aG (x5::bA (aG [])))),m⟩
def FX (x1 x5 iI bQ bU:AV) (m:af) (K:KT):OM:=ck 127 (b9 (c2 (c2 (c2 (aB f127))))) 4 (aG (x1::aK (aG (x5::aW (aM (aK (aG (iI::bQ::bU::bI (aW (aM (aK (aG [])))))))))))) m K
def KF (x1 x5 x6 x8 iI bQ bU:AV) (m:af):St:=⟨(aG (x1::aK (aG (x5::x6::aG (x8::aW (aM (iI::bQ::bU::bI (aW (aM (aK (aG []))))))))))),m⟩
def FY (x1 x5 x6 x7 x8 iI bQ bU E5 tg pk:AV) (m:af) (K:KT):OM:=ck 127 (b9 (kY (kY (pE (c2 (aB f127)))))) 8 (aG (x1::aK (aG (x5::x6::x7::x8::aW (aM (iI::bQ::bU::aM (E5::tg::pk::bI (aW [])))))))) m K
abbrev qbh (K:KT):KT:=bE 127 (bo (aB f127)) K
abbrev qbi (K:KT):KT:=bz 0 (qbh K)
abbrev JU (K:KT):KT:=(qbi K)
abbrev qbk (K:KT):KT:=bE 127 (kZ (mD (c2 (c2 (aB f127))))) (nQ 127 (b9 (c2 (c2 (c2 (aB f127))))) 4 K)
abbrev qbl (K:KT):KT:=bz 1 (qbk K)
abbrev qbm (K:KT):KT:=bE 127 (kZ (yb (mD (c2 (c2 (aB f127)))))) (qbl K)
abbrev qbn (K:KT):KT:=bz 2 (qbm K)
abbrev JV (K:KT):KT:=(qbn K)
theorem qfO (a0 a1:AV) (m:af):AC ae 127 [a0,a1] m=(aD (AP ae) none m 164 [a0]).bind fun r1=>(aD (AP ae) none r1.2 164 [a1]).bind fun r2=>(aO false r1.1).bind fun v3=>(aO false r2.1).bind fun v4=>(ag .other .add v3 v4).bind fun v5=>(iP none 161 none (.int .u32 0) 4 r2.2 v5 v5).bind fun r6=>(aO false r1.1).bind fun v7=>FX r2.1 r6.1 r1.1 v7 (.int .i64 0) r6.2 (JU (aE ae.P f127.results.toList)):=
(bm ae 127 [a0,a1] m (fn:=f127) (c:=aB f127) qic rfl).trans (by kernel_rfl)
theorem Qj (x1 x5 iI bQ bU:AV) (m:af) (K:KT):FX x1 x5 iI bQ bU m K=(ag .other .lss bU bQ).bind fun v1=>aw v1 ((aH none iI bU).bind fun v2=>(aj none m v2).bind fun v3=>(aO false x1).bind fun v4=>FY x1 x5 bU v3 (.int .u64 0) iI bQ bU x1 v4 (.int .i64 0) m (JV K)) (K (.exit 0) (KE x5 m)):=
(cg (bW _) _ _ _).trans (by kernel_rfl)
theorem Qk (x1 x5 x6 x7 x8 iI bQ bU E5 tg pk:AV) (m:af) (K:KT):FY x1 x5 x6 x7 x8 iI bQ bU E5 tg pk m K=(ag .other .lss pk tg).bind fun v1=>aw v1 ((aH none E5 pk).bind fun v2=>(aj none m v2).bind fun v3=>(ag .other .add x6 pk).bind fun v4=>(aH none x5 v4).bind fun v5=>(aj none m v5).bind fun v6=>(bn .u64 v6).bind fun v7=>(bn .u64 x7).bind fun v8=>(bn .u64 v3).bind fun v9=>(ag .other .mul v8 v9).bind fun v10=>(ag .other .add v7 v10).bind fun v11=>(ag .other .add x8 v11).bind fun v12=>(ag .other .add x6 pk).bind fun bu=>(bn .u32 v12).bind fun bq=>(aH none x5 bu).bind fun br=>(aL none m br bq).bind fun m16=>(ag .other .shr v12 (.int .u64 32)).bind fun bH=>(ag .other .add pk (.int .i64 1)).bind fun fI=>FY x1 x5 x6 x7 bH iI bQ bU E5 tg fI m16 K) (K (.exit 2) (KF x1 x5 x6 x8 iI bQ bU m)):=
(cg (bW _) _ _ _).trans (by kernel_rfl)
theorem qbj (x5:AV) (m:af):JU (aE ae.P f127.results.toList) (.exit 0) (KE x5 m)=(aD (AP ae) none m 164 [x5]).bind fun r1=>some (r1.1,r1.2):=by kernel_rfl
theorem qbo (x1 x5 x6 x8 iI bQ bU:AV) (m:af) (K:KT):JV K (.exit 2) (KF x1 x5 x6 x8 iI bQ bU m)=(aO false x1).bind fun v1=>(ag .other .add x6 v1).bind fun v2=>(bn .u32 x8).bind fun v3=>(aH none x5 v2).bind fun v4=>(aL none m v4 v3).bind fun m5=>(ag .other .add bU (.int .i64 1)).bind fun v6=>FX x1 x5 iI bQ v6 m5 K:=by kernel_rfl
def GN (x5 x6:AV) (m:af):St:=⟨(aM (aG (x5::x6::bI (bC (aM (aG [])))))),m⟩
def zP (x1 x5 x6 cD iJ vJ:AV) (m:af) (K:KT):OM:=ck 130 (b9 (bo (c2 (aB f130)))) 7 (aG (x1::aK (aG (x5::x6::bC (aG (cD::iJ::vJ::bI (aG []))))))) m K
abbrev qbt (K:KT):KT:=bE 130 (bo (c2 (c2 (aB f130)))) K
abbrev qbu (K:KT):KT:=bz 0 (qbt K)
abbrev zK (K:KT):KT:=(qbu K)
theorem qfS (a0 a1:AV) (m:af):AC ae 130 [a0,a1] m=(aD (AP ae) none m 164 [a0]).bind fun r1=>(aD (AP ae) none r1.2 164 [a1]).bind fun r2=>(aO false r1.1).bind fun v3=>(aO false r2.1).bind fun v4=>(ag .other .lss v3 v4).bind fun v5=>aw v5 ((aO false r2.1).bind fun v6=>(ag .other .add v6 (.int .i64 1)).bind fun v7=>(iP none 161 none (.int .u32 0) 4 r2.2 (.int .i64 0) v7).bind fun r8=>(aO false r2.1).bind fun v9=>zP r1.1 r8.1 (.int .u64 0) r2.1 v9 (.int .i64 0) r8.2 (zK (aE ae.P f130.results.toList))) ((aO false r1.1).bind fun v10=>(ag .other .add v10 (.int .i64 1)).bind fun v11=>(iP none 161 none (.int .u32 0) 4 r2.2 (.int .i64 0) v11).bind fun kf=>(aO false r1.1).bind fun bu=>zP r2.1 kf.1 (.int .u64 0) r1.1 bu (.int .i64 0) kf.2 (zK (aE ae.P f130.results.toList))):=
(bm ae 130 [a0,a1] m (fn:=f130) (c:=aB f130) qif rfl).trans (by kernel_rfl)
theorem Qn (x1 x5 x6 cD iJ vJ:AV) (m:af) (K:KT):zP x1 x5 x6 cD iJ vJ m K=(ag .other .lss vJ iJ).bind fun v1=>aw v1 ((aH none cD vJ).bind fun v2=>(aj none m v2).bind fun v3=>(bn .u64 v3).bind fun v4=>(ag .other .add x6 v4).bind fun v5=>(aO false x1).bind fun v6=>(ag .other .lss vJ v6).bind fun v7=>aw v7 ((aH none x1 vJ).bind fun v8=>(aj none m v8).bind fun v9=>(bn .u64 v9).bind fun v10=>(ag .other .add v5 v10).bind fun v11=>(bn .u32 v11).bind fun v12=>(dO none [v12]).bind fun bu=>(b8 none false 161 none 4 m x5 bu).bind fun jK=>(ag .other .shr v11 (.int .u64 32)).bind fun br=>(ag .other .add vJ (.int .i64 1)).bind fun bT=>zP x1 jK.1 br cD iJ bT jK.2 K) ((bn .u32 v5).bind fun bH=>(dO none [bH]).bind fun fI=>(b8 none false 161 none 4 m x5 fI).bind fun pa=>(ag .other .shr v5 (.int .u64 32)).bind fun v20=>(ag .other .add vJ (.int .i64 1)).bind fun v21=>zP x1 pa.1 v20 cD iJ v21 pa.2 K)) (K (.exit 0) (GN x5 x6 m)):=
(cg (bW _) _ _ _).trans (by kernel_rfl)
theorem qbv (x5 x6:AV) (m:af):zK (aE ae.P f130.results.toList) (.exit 0) (GN x5 x6 m)=(bn .u32 x6).bind fun v1=>(dO none [v1]).bind fun v2=>(b8 none false 161 none 4 m x5 v2).bind fun r3=>(aD (AP ae) none r3.2 164 [r3.1]).bind fun r4=>some (r4.1,r4.2):=by kernel_rfl
def KG (m:af):St:=⟨(bI (bC (aG []))),m⟩
def GZ (x4:AV) (m:af):St:=⟨(aM (x4::bI (aW (aM [])))),m⟩
def F3 (x0 x1 x5:AV) (m:af) (K:KT):OM:=ck 131 (b9 (c2 (c2 (c2 (aB f131))))) 7 (x0::x1::aK (aG (x5::bI (aW (aK (aG [])))))) m K
abbrev qbw (K:KT):KT:=bE 131 (bo (aB f131)) K
abbrev qbx (K:KT):KT:=bz 1 (qbw K)
abbrev Fl (K:KT):KT:=(qbx K)
theorem qfU (a0 a1:AV) (m:af):AC ae 131 [a0,a1] m=(aD (AP ae) none m 164 [a0]).bind fun r1=>(aD (AP ae) none r1.2 164 [a1]).bind fun r2=>(aO false r1.1).bind fun v3=>(aO false r2.1).bind fun v4=>(ag .other .lss v3 v4).bind fun v5=>aw v5 (some ((.int .i64 (-1)),r2.2)) ((aO false r1.1).bind fun v6=>(aO false r2.1).bind fun v7=>(ag .other .gtr v6 v7).bind fun v8=>aw v8 (some ((.int .i64 1),r2.2)) ((aO false r1.1).bind fun v9=>(ag .other .sub v9 (.int .i64 1)).bind fun v10=>F3 r1.1 r2.1 v10 r2.2 (Fl (aE ae.P f131.results.toList)))):=
(bm ae 131 [a0,a1] m (fn:=f131) (c:=aB f131) qig rfl).trans (by kernel_rfl)
theorem Qo (x0 x1 x5:AV) (m:af) (K:KT):F3 x0 x1 x5 m K=(ag .other .geq x5 (.int .i64 0)).bind fun v1=>aw v1 ((aH none x0 x5).bind fun v2=>(aj none m v2).bind fun v3=>(aH none x1 x5).bind fun v4=>(aj none m v4).bind fun v5=>(ag .other .lss v3 v5).bind fun v6=>aw v6 (K .ret (GZ (.int .i64 (-1)) m)) ((aH none x0 x5).bind fun v7=>(aj none m v7).bind fun v8=>(aH none x1 x5).bind fun v9=>(aj none m v9).bind fun v10=>(ag .other .gtr v8 v10).bind fun v11=>aw v11 (K .ret (GZ (.int .i64 1) m)) ((ag .other .sub x5 (.int .i64 1)).bind fun v12=>F3 x0 x1 v12 m K))) (K (.exit 1) (KG m)):=
(cg (bW _) _ _ _).trans (by kernel_rfl)
theorem qbz (m:af):Fl (aE ae.P f131.results.toList) (.exit 1) (KG  m)=some ((.int .i64 0),m):=by kernel_rfl
theorem qby (x4:AV) (m:af):Fl (aE ae.P f131.results.toList) .ret (GZ x4 m)=some (x4,m):=by kernel_rfl
def KH (x6:AV) (m:af):St:=⟨(aM (aK (x6::bI (bC (aM []))))),m⟩
def xF (x1 x6 x7 bQ bU cD:AV) (m:af) (K:KT):OM:=ck 132 (b9 (bo (c2 (aB f132)))) 7 (aG (x1::aM (x6::x7::aW (aM (aK (bQ::bU::cD::bI (aK []))))))) m K
abbrev qbA (K:KT):KT:=bE 132 (bo (c2 (c2 (aB f132)))) K
abbrev qbB (K:KT):KT:=bz 0 (qbA K)
abbrev JW (K:KT):KT:=(qbB K)
theorem RR (a0 a1:AV) (m:af):AC ae 132 [a0,a1] m=(aD (AP ae) none m 131 [a0,a1]).bind fun r1=>(ag .other .lss r1.1 (.int .i64 0)).bind fun v2=>aw v2 (some ((.tup [au,(.int .i64 1)]),r1.2)) ((aD (AP ae) none r1.2 164 [a0]).bind fun r3=>(aD (AP ae) none r3.2 164 [a1]).bind fun r4=>(aO false r3.1).bind fun v5=>(iP none 161 none (.int .u32 0) 4 r4.2 v5 v5).bind fun r6=>(aO false r3.1).bind fun v7=>xF r4.1 r6.1 (.int .u64 0) r3.1 v7 (.int .i64 0) r6.2 (JW (aE ae.P f132.results.toList))):=
(bm ae 132 [a0,a1] m (fn:=f132) (c:=aB f132) qih rfl).trans (by kernel_rfl)
theorem Qp (x1 x6 x7 bQ bU cD:AV) (m:af) (K:KT):xF x1 x6 x7 bQ bU cD m K=(ag .other .lss cD bU).bind fun v1=>aw v1 ((aH none bQ cD).bind fun v2=>(aj none m v2).bind fun v3=>(aO false x1).bind fun v4=>(ag .other .lss cD v4).bind fun v5=>aw v5 ((aH none x1 cD).bind fun v6=>(aj none m v6).bind fun v7=>(bn .u64 v7).bind fun v8=>(ag .other .add x7 v8).bind fun v9=>(bn .u64 v3).bind fun v10=>(ag .other .lss v10 v9).bind fun v11=>aw v11 ((bn .u64 v3).bind fun v12=>(ag .other .shl (.int .u64 1) (.int .u64 32)).bind fun bu=>(ag .other .add v12 bu).bind fun bq=>(ag .other .sub bq v9).bind fun br=>(bn .u32 br).bind fun bT=>(aH none x6 cD).bind fun bH=>(aL none m bH bT).bind fun m18=>(ag .other .add cD (.int .i64 1)).bind fun dG=>xF x1 x6 (.int .u64 1) bQ bU dG m18 K) ((bn .u64 v3).bind fun v20=>(ag .other .shl (.int .u64 0) (.int .u64 32)).bind fun v21=>(ag .other .add v20 v21).bind fun v22=>(ag .other .sub v22 v9).bind fun v23=>(bn .u32 v23).bind fun v24=>(aH none x6 cD).bind fun v25=>(aL none m v25 v24).bind fun m26=>(ag .other .add cD (.int .i64 1)).bind fun kh=>xF x1 x6 (.int .u64 0) bQ bU kh m26 K)) ((bn .u64 v3).bind fun v28=>(ag .other .lss v28 x7).bind fun kR=>aw kR ((bn .u64 v3).bind fun v30=>(ag .other .shl (.int .u64 1) (.int .u64 32)).bind fun v31=>(ag .other .add v30 v31).bind fun mR=>(ag .other .sub mR x7).bind fun pQ=>(bn .u32 pQ).bind fun qO=>(aH none x6 cD).bind fun nw=>(aL none m nw qO).bind fun m36=>(ag .other .add cD (.int .i64 1)).bind fun v37=>xF x1 x6 (.int .u64 1) bQ bU v37 m36 K) ((bn .u64 v3).bind fun te=>(ag .other .shl (.int .u64 0) (.int .u64 32)).bind fun uj=>(ag .other .add te uj).bind fun v40=>(ag .other .sub v40 x7).bind fun EN=>(bn .u32 EN).bind fun Pv=>(aH none x6 cD).bind fun EO=>(aL none m EO Pv).bind fun m44=>(ag .other .add cD (.int .i64 1)).bind fun EP=>xF x1 x6 (.int .u64 0) bQ bU EP m44 K))) (K (.exit 0) (KH x6 m)):=
(cg (bW _) _ _ _).trans (by kernel_rfl)
theorem qbC (x6:AV) (m:af):JW (aE ae.P f132.results.toList) (.exit 0) (KH x6 m)=(aD (AP ae) none m 164 [x6]).bind fun r1=>some ((.tup [r1.1,(.int .i64 0)]),r1.2):=by kernel_rfl
theorem qfM (a0:AV) (m:af):AC ae 123 [a0] m=(bn .u32 a0).bind fun v1=>(ag .other .shr a0 (.int .u64 32)).bind fun v2=>(bn .u32 v2).bind fun v3=>(dO none [v1,v3]).bind fun v4=>(aD (AP ae) none m 164 [v4]).bind fun r5=>(aD (AP ae) none r5.2 163 [r5.1]).bind fun r6=>some (r6.1,r6.2):=
(bm ae 123 [a0] m (fn:=f123) (c:=aB f123) qh8 rfl).trans (by kernel_rfl)
theorem qgj (a0:AV) (m:af):AC ae 181 [a0] m=(aO false a0).bind fun v1=>(ag .other .eql v1 (.int .i64 0)).bind fun v2=>aw v2 (some ((.bool true),m)) ((aO false a0).bind fun v3=>(ag .other .sub v3 (.int .i64 1)).bind fun v4=>(aH none a0 v4).bind fun v5=>(aj none m v5).bind fun v6=>(ag .other .neq v6 (.int .u32 0)).bind fun v7=>some (v7,m)):=
(bm ae 181 [a0] m (fn:=f181) (c:=aB f181) qiQ rfl).trans (by kernel_rfl)
theorem qgk (a0:AV) (m:af):AC ae 182 [a0] m=(aD (AP ae) none m 164 [a0]).bind fun r1=>(aO false r1.1).bind fun v2=>(ag .other .eql v2 (.int .i64 0)).bind fun v3=>aw v3 (some ((.tup [(.int .u64 0),(.bool true)]),r1.2)) ((ag .other .eql v2 (.int .i64 1)).bind fun v4=>aw v4 ((aH none r1.1 (.int .i64 0)).bind fun v5=>(aj none r1.2 v5).bind fun v6=>(bn .u64 v6).bind fun v7=>some ((.tup [v7,(.bool true)]),r1.2)) ((ag .other .eql v2 (.int .i64 2)).bind fun v8=>aw v8 ((aH none r1.1 (.int .i64 0)).bind fun v9=>(aj none r1.2 v9).bind fun v10=>(bn .u64 v10).bind fun v11=>(aH none r1.1 (.int .i64 1)).bind fun v12=>(aj none r1.2 v12).bind fun bu=>(bn .u64 bu).bind fun bq=>(ag .other .shl bq (.int .u64 32)).bind fun br=>(ag .other .or v11 br).bind fun bT=>some ((.tup [bT,(.bool true)]),r1.2)) (some ((.tup [(.int .u64 0),(.bool false)]),r1.2)))):=
(bm ae 182 [a0] m (fn:=f182) (c:=aB f182) qiR rfl).trans (by kernel_rfl)
def KS (x0:AV) (m:af):St:=⟨(x0::bC (aW (aG []))),m⟩
def Gk (x0 x1:AV) (m:af) (K:KT):OM:=ck 183 (nD (c2 (aB f183))) 2 (x0::x1::bC (aW [])) m K
abbrev qcR (K:KT):KT:=bE 183 (c2 (c2 (c2 (aB f183)))) K
abbrev qcS (K:KT):KT:=bz 0 (qcR K)
abbrev J7 (K:KT):KT:=(qcS K)
theorem qgl (a0 a1:AV) (m:af):AC ae 183 [a0,a1] m=(aD (AP ae) none m 164 [a0]).bind fun r1=>(aD (AP ae) none r1.2 164 [a1]).bind fun r2=>Gk r1.1 r2.1 r2.2 (J7 (aE ae.P f183.results.toList)):=
(bm ae 183 [a0,a1] m (fn:=f183) (c:=aB f183) qiS rfl).trans (by kernel_rfl)
theorem qfk (x0 x1:AV) (m:af) (K:KT):Gk x0 x1 m K=(aO false x1).bind fun v1=>(ag .other .gtr v1 (.int .i64 0)).bind fun v2=>aw v2 ((aD (AP ae) none m 187 [x0,x1]).bind fun r3=>(aY r3.1 0).bind fun v4=>(aY r3.1 1).bind fun v5=>(aY r3.1 2).bind fun v6=>Gk x1 v5 r3.2 K) (K (.exit 0) (KS x0 m)):=
(cg (bW _) _ _ _).trans (by kernel_rfl)
theorem qcT (x0:AV) (m:af):J7 (aE ae.P f183.results.toList) (.exit 0) (KS x0 m)=(aD (AP ae) none m 163 [x0]).bind fun r1=>some (r1.1,r1.2):=by kernel_rfl
def GP (x0 x3:AV) (m:af):St:=⟨(x0::aK (x3::bC (aG []))),m⟩
def Ge (x0 x3:AV) (m:af) (K:KT):OM:=ck 164 (nD (c2 (aB f164))) 2 (x0::aK (x3::bC (aG []))) m K
abbrev qb7 (K:KT):KT:=bE 164 (c2 (c2 (c2 (aB f164)))) K
abbrev qb8 (K:KT):KT:=bz 0 (qb7 K)
abbrev J0 (K:KT):KT:=(qb8 K)
theorem qgb (a0:AV) (m:af):AC ae 164 [a0] m=(aO false a0).bind fun v1=>Ge a0 v1 m (J0 (aE ae.P f164.results.toList)):=
(bm ae 164 [a0] m (fn:=f164) (c:=aB f164) qiE rfl).trans (by kernel_rfl)
theorem Qy (x0 x3:AV) (m:af) (K:KT):Ge x0 x3 m K=(ag .other .gtr x3 (.int .i64 0)).bind fun v1=>aw v1 ((ag .other .sub x3 (.int .i64 1)).bind fun v2=>(aH none x0 v2).bind fun v3=>(aj none m v3).bind fun v4=>(ag .other .eql v4 (.int .u32 0)).bind fun v5=>aw v5 ((ag .other .sub x3 (.int .i64 1)).bind fun v6=>Ge x0 v6 m K) (K (.exit 0) (GP x0 x3 m))) (K (.exit 0) (GP x0 x3 m)):=
(cg (bW _) _ _ _).trans (by kernel_rfl)
theorem qb9 (x0 x3:AV) (m:af):J0 (aE ae.P f164.results.toList) (.exit 0) (GP x0 x3 m)=(nS none x0 none (some x3) none).bind fun v1=>some (v1,m):=by kernel_rfl
theorem Lq (a0:AV) (m:af):AC ae 163 [a0] m=(ag .sl .eql a0 au).bind fun v1=>aw v1 (some (au,m)) ((dO none []).bind fun v2=>(b8 none false 161 none 4 m v2 a0).bind fun r3=>some (r3.1,r3.2)):=
(bm ae 163 [a0] m (fn:=f163) (c:=aB f163) qiD rfl).trans (by kernel_rfl)
def KU (x9 aF aN aX:AV) (m:af):St:=⟨(aW (aG (x9::aF::aG (aN::aX::bA (bA (bA (bA (bI (aW (aM (aG []))))))))))),m⟩
def Cm (x9 aF aZ aN aX aV:AV) (m:af) (K:KT):OM:=ck 187 (b9 (bo (c2 (c2 (c2 (aB f187)))))) 14 (aW (aG (x9::aF::aZ::aN::aX::aV::bA (bA (bA (bA (bI (aW (aM []))))))))) m K
def xO (x9 aF aZ aN aX aV be:AV) (m:af):St:=⟨(aW (aG (x9::aF::aZ::aN::aX::aV::aG (be::bA (bA (bA (bA (bI (aW (aK [])))))))))),m⟩
def zV (x9 aF aZ aN aX aV be cw:AV) (m:af) (K:KT):OM:=ck 187 (nD (wi (b9 (bo (c2 (c2 (c2 (aB f187)))))))) 18 (aW (aG (x9::aF::aZ::aN::aX::aV::aG (be::cw::bA (bA (bA (bA (bI (aW (aG [])))))))))) m K
def KV (x9 aF aZ aN aX aV be cq fE:AV) (m:af):St:=⟨(aW (aG (x9::aF::aZ::aN::aX::aV::aG (be::aG (cq::fE::bA (bA (bA (bA (bI (aM (aK (aG [])))))))))))),m⟩
def Cn (x9 aF aZ aN aX aV be cq fE BS rK:AV) (m:af) (K:KT):OM:=ck 187 (b9 (bo (b9 (mD (bo (c2 (c2 (aB f187)))))))) 24 (aW (aG (x9::aF::aZ::aN::aX::aV::aG (be::aG (cq::fE::bA (bA (aW (aK (BS::rK::bA (bA (bC (aW (aK (aG [])))))))))))))) m K
def KW (x9 aF aZ aN aX aV be fE:AV) (m:af):St:=⟨(aW (aG (x9::aF::aZ::aN::aX::aV::aG (be::aK (fE::bA (bA (bA (bA (bI (aM (aK (aG [])))))))))))),m⟩
def Gl (x9 aF aZ aN aX aV be fE E4 xn:AV) (m:af) (K:KT):OM:=ck 187 (b9 (L3 (Di (bo (wi (b9 (bo (c2 (c2 (c2 (aB f187))))))))))) 41 (aW (aG (x9::aF::aZ::aN::aX::aV::aG (be::aK (fE::bA (bA (bA (bC (aM (aK (aG (E4::xn::bA (aW (aM (aK []))))))))))))))) m K
def KX (aX iJ:AV) (m:af):St:=⟨(aW (aM (aG (aX::aW (aK (aG (iJ::bA (bA (bA (bA (bI (aG [])))))))))))),m⟩
def Co (x9 aF aX iJ BT tf:AV) (m:af) (K:KT):OM:=ck 187 (b9 (bo (bo (c2 (aB f187))))) 51 (aW (aG (x9::aF::aK (aX::aW (aK (aG (iJ::bA (bA (bA (bI (bC (aW (aM (aK (aG (BT::tf::bI [])))))))))))))))) m K
abbrev qcX (K:KT):KT:=bE 187 (bo (bo (aB f187))) K
abbrev qcY (K:KT):KT:=bz 1 (qcX K)
abbrev J9 (K:KT):KT:=(qcY K)
abbrev qc0 (K:KT):KT:=bE 187 (kY (pE (bo (c2 (aB f187))))) (nQ 187 (b9 (bo (c2 (c2 (c2 (aB f187)))))) 14 K)
abbrev qc1 (K:KT):KT:=bz 2 (qc0 K)
abbrev qc2 (K:KT):KT:=bE 187 (kZ (Hw (pE (bo (c2 (aB f187)))))) (qc1 K)
abbrev qc3 (K:KT):KT:=bz 3 (qc2 K)
abbrev Ka (K:KT):KT:=(qc3 K)
abbrev qdg (K:KT):KT:=bE 187 (bo (bo (c2 (c2 (aB f187))))) K
abbrev qdh (K:KT):KT:=bz 9 (qdg K)
abbrev Kd (K:KT):KT:=(qdh K)
abbrev qc5 (K:KT):KT:=bE 187 (kY (pE (bo (c2 (aB f187))))) (nQ 187 (b9 (bo (c2 (c2 (c2 (aB f187)))))) 14 K)
abbrev qc6 (K:KT):KT:=bz 2 (qc5 K)
abbrev qc7 (K:KT):KT:=bE 187 (bo (wi (b9 (bo (c2 (c2 (c2 (aB f187)))))))) (qc6 K)
abbrev qc8 (K:KT):KT:=bz 5 (qc7 K)
abbrev Kb (K:KT):KT:=(qc8 K)
abbrev qda (K:KT):KT:=bE 187 (kY (pE (bo (c2 (aB f187))))) (nQ 187 (b9 (bo (c2 (c2 (c2 (aB f187)))))) 14 K)
abbrev qdb (K:KT):KT:=bz 2 (qda K)
abbrev qdc (K:KT):KT:=bE 187 (bo (bo (wi (b9 (bo (c2 (c2 (c2 (aB f187))))))))) (qdb K)
abbrev qdd (K:KT):KT:=bE 187 (kZ (pE (bo (kY (wi (Di (bo (aB f187)))))))) (qdc K)
abbrev qde (K:KT):KT:=bz 7 (qdd K)
abbrev Kc (K:KT):KT:=(qde K)
theorem G7 (a0 a1:AV) (m:af):AC ae 187 [a0,a1] m=(aD (AP ae) none m 164 [a0]).bind fun r1=>(aD (AP ae) none r1.2 164 [a1]).bind fun r2=>(aO false r2.1).bind fun v3=>(ag .other .eql v3 (.int .i64 0)).bind fun v4=>aw v4 (some ((.tup [au,au,(.int .i64 31)]),r2.2)) ((aD (AP ae) none r2.2 131 [r1.1,r2.1]).bind fun r5=>(ag .other .lss r5.1 (.int .i64 0)).bind fun v6=>aw v6 ((aD (AP ae) none r5.2 163 [r1.1]).bind fun r7=>some ((.tup [au,r7.1,(.int .i64 0)]),r7.2)) ((aO false r2.1).bind fun v8=>(ag .other .eql v8 (.int .i64 1)).bind fun v9=>aw v9 ((aH none r2.1 (.int .i64 0)).bind fun v10=>(aj none r5.2 v10).bind fun v11=>(aD (AP ae) none r5.2 202 [r1.1,v11]).bind fun kf=>(aY kf.1 0).bind fun bu=>(aY kf.1 1).bind fun bq=>(bn .u64 bq).bind fun br=>(aD (AP ae) none kf.2 123 [br]).bind fun hZ=>some ((.tup [bu,hZ.1,(.int .i64 0)]),hZ.2)) ((aO false r2.1).bind fun bH=>(ag .other .sub bH (.int .i64 1)).bind fun fI=>(aH none r2.1 fI).bind fun dG=>(aj none r5.2 dG).bind fun v20=>(aD (AP ae) none r5.2 203 [v20]).bind fun Ey=>(bn .u64 Ey.1).bind fun v22=>(AC ae 204 [r1.1,v22] Ey.2).bind fun kP=>(AC ae 204 [r2.1,v22] kP.2).bind fun mo=>(aD (AP ae) none mo.2 164 [mo.1]).bind fun mO=>(aO false mO.1).bind fun v26=>(aO false kP.1).bind fun kh=>(ag .other .sub kh v26).bind fun v28=>(iP none 161 none (.int .u32 0) 4 mO.2 v28 v28).bind fun Yi=>(aO false kP.1).bind fun v30=>(ag .other .sub v30 v26).bind fun v31=>(ag .other .sub v31 (.int .i64 1)).bind fun mR=>Cm v22 kP.1 mO.1 v26 Yi.1 mR Yi.2 (J9 (aE ae.P f187.results.toList))))):=
(bm ae 187 [a0,a1] m (fn:=f187) (c:=aB f187) qiU rfl).trans (by kernel_rfl)
theorem QK (x9 aF aZ aN aX aV:AV) (m:af) (K:KT):Cm x9 aF aZ aN aX aV m K=(ag .other .geq aV (.int .i64 0)).bind fun v1=>aw v1 ((ag .other .add aV aN).bind fun v2=>(aH none aF v2).bind fun v3=>(aj none m v3).bind fun v4=>(bn .u64 v4).bind fun v5=>(ag .other .shl v5 (.int .u64 32)).bind fun v6=>(ag .other .add aV aN).bind fun v7=>(ag .other .sub v7 (.int .i64 1)).bind fun v8=>(aH none aF v8).bind fun v9=>(aj none m v9).bind fun v10=>(bn .u64 v10).bind fun v11=>(ag .other .or v6 v11).bind fun v12=>(ag .other .sub aN (.int .i64 1)).bind fun bu=>(aH none aZ bu).bind fun bq=>(aj none m bq).bind fun br=>(bn .u64 br).bind fun bT=>(ag .other .quo v12 bT).bind fun bH=>(ag .other .sub aN (.int .i64 1)).bind fun fI=>(aH none aZ fI).bind fun dG=>(aj none m dG).bind fun v20=>(bn .u64 v20).bind fun v21=>(ag .other .rem v12 v21).bind fun v22=>zV x9 aF aZ aN aX aV bH v22 m (Ka K)) (K (.exit 1) (KU x9 aF aN aX m)):=
(cg (bW _) _ _ _).trans (by kernel_rfl)
theorem qfl (x9 aF aZ aN aX aV be cw:AV) (m:af) (K:KT):zV x9 aF aZ aN aX aV be cw m K=(ag .other .geq be (.int .u64 4294967296)).bind fun v1=>aw v1 ((ag .other .sub be (.int .u64 1)).bind fun v2=>(ag .other .sub aN (.int .i64 1)).bind fun v3=>(aH none aZ v3).bind fun v4=>(aj none m v4).bind fun v5=>(bn .u64 v5).bind fun v6=>(ag .other .add cw v6).bind fun v7=>(ag .other .geq v7 (.int .u64 4294967296)).bind fun v8=>aw v8 (K (.exit 3) (xO x9 aF aZ aN aX aV v2 m)) (zV x9 aF aZ aN aX aV v2 v7 m K)) ((ag .other .sub aN (.int .i64 2)).bind fun v9=>(aH none aZ v9).bind fun v10=>(aj none m v10).bind fun v11=>(bn .u64 v11).bind fun v12=>(ag .other .mul be v12).bind fun bu=>(ag .other .shl cw (.int .u64 32)).bind fun bq=>(ag .other .add aV aN).bind fun br=>(ag .other .sub br (.int .i64 2)).bind fun bT=>(aH none aF bT).bind fun bH=>(aj none m bH).bind fun fI=>(bn .u64 fI).bind fun dG=>(ag .other .or bq dG).bind fun v20=>(ag .other .gtr bu v20).bind fun v21=>aw v21 ((ag .other .sub be (.int .u64 1)).bind fun v22=>(ag .other .sub aN (.int .i64 1)).bind fun v23=>(aH none aZ v23).bind fun v24=>(aj none m v24).bind fun v25=>(bn .u64 v25).bind fun v26=>(ag .other .add cw v26).bind fun kh=>(ag .other .geq kh (.int .u64 4294967296)).bind fun v28=>aw v28 (K (.exit 3) (xO x9 aF aZ aN aX aV v22 m)) (zV x9 aF aZ aN aX aV v22 kh m K)) (K (.exit 3) (xO x9 aF aZ aN aX aV be m))):=
(cg (bW _) _ _ _).trans (by kernel_rfl)
theorem QL (x9 aF aZ aN aX aV be cq fE BS rK:AV) (m:af) (K:KT):Cn x9 aF aZ aN aX aV be cq fE BS rK m K=(ag .other .lss rK BS).bind fun v1=>aw v1 ((aH none aZ rK).bind fun v2=>(aj none m v2).bind fun v3=>(bn .u64 v3).bind fun v4=>(ag .other .mul be v4).bind fun v5=>(ag .other .add fE v5).bind fun v6=>(ag .other .and v6 (.int .u64 4294967295)).bind fun v7=>(ag .other .add v7 cq).bind fun v8=>(ag .other .add rK aV).bind fun v9=>(aH none aF v9).bind fun v10=>(aj none m v10).bind fun v11=>(bn .u64 v11).bind fun v12=>(ag .other .lss v12 v8).bind fun bu=>aw bu ((ag .other .add rK aV).bind fun bq=>(ag .other .add rK aV).bind fun br=>(aH none aF br).bind fun bT=>(aj none m bT).bind fun bH=>(bn .u64 bH).bind fun fI=>(ag .other .shl (.int .u64 1) (.int .u64 32)).bind fun dG=>(ag .other .add fI dG).bind fun v20=>(ag .other .sub v20 v8).bind fun v21=>(bn .u32 v21).bind fun v22=>(aH none aF bq).bind fun v23=>(aL none m v23 v22).bind fun m24=>(ag .other .shr v6 (.int .u64 32)).bind fun v25=>(ag .other .add rK (.int .i64 1)).bind fun v26=>Cn x9 aF aZ aN aX aV be (.int .u64 1) v25 BS v26 m24 K) ((ag .other .add rK aV).bind fun kh=>(ag .other .add rK aV).bind fun v28=>(aH none aF v28).bind fun kR=>(aj none m kR).bind fun v30=>(bn .u64 v30).bind fun v31=>(ag .other .shl (.int .u64 0) (.int .u64 32)).bind fun mR=>(ag .other .add v31 mR).bind fun pQ=>(ag .other .sub pQ v8).bind fun qO=>(bn .u32 qO).bind fun nw=>(aH none aF kh).bind fun vI=>(aL none m vI nw).bind fun m37=>(ag .other .shr v6 (.int .u64 32)).bind fun te=>(ag .other .add rK (.int .i64 1)).bind fun uj=>Cn x9 aF aZ aN aX aV be (.int .u64 0) te BS uj m37 K)) (K (.exit 5) (KV x9 aF aZ aN aX aV be cq fE m)):=
(cg (bW _) _ _ _).trans (by kernel_rfl)
theorem QM (x9 aF aZ aN aX aV be fE E4 xn:AV) (m:af) (K:KT):Gl x9 aF aZ aN aX aV be fE E4 xn m K=(ag .other .lss xn E4).bind fun v1=>aw v1 ((ag .other .add xn aV).bind fun v2=>(aH none aF v2).bind fun v3=>(aj none m v3).bind fun v4=>(bn .u64 v4).bind fun v5=>(aH none aZ xn).bind fun v6=>(aj none m v6).bind fun v7=>(bn .u64 v7).bind fun v8=>(ag .other .add v5 v8).bind fun v9=>(ag .other .add fE v9).bind fun v10=>(ag .other .add xn aV).bind fun v11=>(bn .u32 v10).bind fun v12=>(aH none aF v11).bind fun bu=>(aL none m bu v12).bind fun m14=>(ag .other .shr v10 (.int .u64 32)).bind fun br=>(ag .other .add xn (.int .i64 1)).bind fun bT=>Gl x9 aF aZ aN aX aV be br E4 bT m14 K) (K (.exit 7) (KW x9 aF aZ aN aX aV be fE m)):=
(cg (bW _) _ _ _).trans (by kernel_rfl)
theorem QN (x9 aF aX iJ BT tf:AV) (m:af) (K:KT):Co x9 aF aX iJ BT tf m K=(ag .other .lss tf BT).bind fun v1=>aw v1 ((aH none aF tf).bind fun v2=>(aj none m v2).bind fun v3=>(ag .other .shr v3 x9).bind fun v4=>(aH none iJ tf).bind fun v5=>(aL none m v5 v4).bind fun m6=>(ag .other .gtr x9 (.int .u64 0)).bind fun v7=>aw v7 ((aH none iJ tf).bind fun v8=>(aj none m6 v8).bind fun v9=>(ag .other .add tf (.int .i64 1)).bind fun v10=>(aH none aF v10).bind fun v11=>(aj none m6 v11).bind fun v12=>(ag .other .sub (.int .u64 32) x9).bind fun bu=>(ag .other .shl v12 bu).bind fun bq=>(ag .other .or v9 bq).bind fun br=>(aH none iJ tf).bind fun bT=>(aL none m6 bT br).bind fun m17=>(ag .other .add tf (.int .i64 1)).bind fun fI=>Co x9 aF aX iJ BT fI m17 K) ((ag .other .add tf (.int .i64 1)).bind fun dG=>Co x9 aF aX iJ BT dG m6 K)) (K (.exit 9) (KX aX iJ m)):=
(cg (bW _) _ _ _).trans (by kernel_rfl)
theorem qcZ (x9 aF aN aX:AV) (m:af):J9 (aE ae.P f187.results.toList) (.exit 1) (KU x9 aF aN aX m)=(iP none 161 none (.int .u32 0) 4 m aN aN).bind fun r1=>Co x9 aF aX r1.1 aN (.int .i64 0) r1.2 (Kd (aE ae.P f187.results.toList)):=by kernel_rfl
theorem qc4 (x9 aF aZ aN aX aV be:AV) (m:af) (K:KT):Ka K (.exit 3) (xO x9 aF aZ aN aX aV be m)=Cn x9 aF aZ aN aX aV be (.int .u64 0) (.int .u64 0) aN (.int .i64 0) m (Kb K):=by kernel_rfl
theorem qdi (aX iJ:AV) (m:af):Kd (aE ae.P f187.results.toList) (.exit 9) (KX aX iJ m)=(aD (AP ae) none m 164 [aX]).bind fun r1=>(aD (AP ae) none r1.2 164 [iJ]).bind fun r2=>some ((.tup [r1.1,r2.1,(.int .i64 0)]),r2.2):=by kernel_rfl
theorem qc9 (x9 aF aZ aN aX aV be cq fE:AV) (m:af) (K:KT):Kb K (.exit 5) (KV x9 aF aZ aN aX aV be cq fE m)=(ag .other .add fE cq).bind fun v1=>(ag .other .add aV aN).bind fun v2=>(aH none aF v2).bind fun v3=>(aj none m v3).bind fun v4=>(bn .u64 v4).bind fun v5=>(ag .other .lss v5 v1).bind fun v6=>(ag .other .add aV aN).bind fun v7=>(ag .other .add aV aN).bind fun v8=>(aH none aF v8).bind fun v9=>(aj none m v9).bind fun v10=>(bn .u64 v10).bind fun v11=>(ag .other .sub v11 v1).bind fun v12=>(bn .u32 v12).bind fun bu=>(aH none aF v7).bind fun bq=>(aL none m bq bu).bind fun m15=>aw v6 ((ag .other .sub be (.int .u64 1)).bind fun bT=>Gl x9 aF aZ aN aX aV bT (.int .u64 0) aN (.int .i64 0) m15 (Kc K)) ((bn .u32 be).bind fun bH=>(aH none aX aV).bind fun fI=>(aL none m15 fI bH).bind fun m19=>(ag .other .sub aV (.int .i64 1)).bind fun v20=>Cm x9 aF aZ aN aX v20 m19 K):=by kernel_rfl
theorem qdf (x9 aF aZ aN aX aV be fE:AV) (m:af) (K:KT):Kc K (.exit 7) (KW x9 aF aZ aN aX aV be fE m)=(ag .other .add aV aN).bind fun v1=>(aH none aF v1).bind fun v2=>(aj none m v2).bind fun v3=>(bn .u32 fE).bind fun v4=>(ag .other .add v3 v4).bind fun v5=>(aH none aF v1).bind fun v6=>(aL none m v6 v5).bind fun m7=>(bn .u32 be).bind fun v8=>(aH none aX aV).bind fun v9=>(aL none m7 v9 v8).bind fun m10=>(ag .other .sub aV (.int .i64 1)).bind fun v11=>Cm x9 aF aZ aN aX v11 m10 K:=by kernel_rfl
def K0 (x6 x7:AV) (m:af):St:=⟨(aM (aK (x6::x7::bI (aK (aG []))))),m⟩
def Gq (x0 x1 x6 x7 x8:AV) (m:af) (K:KT):OM:=ck 202 (b9 (c2 (c2 (c2 (aB f202))))) 4 (x0::x1::aM (x6::x7::x8::bI (aK []))) m K
abbrev qdv (K:KT):KT:=bE 202 (bo (aB f202)) K
abbrev qdw (K:KT):KT:=bz 0 (qdv K)
abbrev Kg (K:KT):KT:=(qdw K)
theorem qgq (a0 a1:AV) (m:af):AC ae 202 [a0,a1] m=(aO false a0).bind fun v1=>(iP none 161 none (.int .u32 0) 4 m v1 v1).bind fun r2=>(aO false a0).bind fun v3=>(ag .other .sub v3 (.int .i64 1)).bind fun v4=>Gq a0 a1 r2.1 (.int .u64 0) v4 r2.2 (Kg (aE ae.P f202.results.toList)):=
(bm ae 202 [a0,a1] m (fn:=f202) (c:=aB f202) qiY rfl).trans (by kernel_rfl)
theorem QS (x0 x1 x6 x7 x8:AV) (m:af) (K:KT):Gq x0 x1 x6 x7 x8 m K=(ag .other .geq x8 (.int .i64 0)).bind fun v1=>aw v1 ((ag .other .shl x7 (.int .u64 32)).bind fun v2=>(aH none x0 x8).bind fun v3=>(aj none m v3).bind fun v4=>(bn .u64 v4).bind fun v5=>(ag .other .or v2 v5).bind fun v6=>(bn .u64 x1).bind fun v7=>(ag .other .quo v6 v7).bind fun v8=>(bn .u32 v8).bind fun v9=>(aH none x6 x8).bind fun v10=>(aL none m v10 v9).bind fun m11=>(bn .u64 x1).bind fun v12=>(ag .other .rem v6 v12).bind fun bu=>(ag .other .sub x8 (.int .i64 1)).bind fun bq=>Gq x0 x1 x6 bu bq m11 K) (K (.exit 0) (K0 x6 x7 m)):=
(cg (bW _) _ _ _).trans (by kernel_rfl)
theorem qdx (x6 x7:AV) (m:af):Kg (aE ae.P f202.results.toList) (.exit 0) (K0 x6 x7 m)=(aD (AP ae) none m 164 [x6]).bind fun r1=>(bn .u32 x7).bind fun v2=>some ((.tup [r1.1,v2]),r1.2):=by kernel_rfl
theorem qgr (a0:AV) (m:af):AC ae 203 [a0] m=(aD (AP ae) none m 199 [a0]).bind fun r1=>(ag .other .sub (.int .i64 32) r1.1).bind fun v2=>some (v2,r1.2):=
(bm ae 203 [a0] m (fn:=f203) (c:=aB f203) qiZ rfl).trans (by kernel_rfl)
def K1 (x5:AV) (m:af):St:=⟨(aM (aG (x5::bI (aK [])))),m⟩
def Gs (x1 x5 aN aX aV:AV) (m:af) (K:KT):OM:=ck 204 (b9 (c2 (c2 (aB f204)))) 3 (aG (x1::aK (aG (x5::aM (aK (aN::aX::aV::bC (aW (aG [])))))))) m K
abbrev qdy (K:KT):KT:=bE 204 (c2 (c2 (c2 (aB f204)))) K
abbrev qdz (K:KT):KT:=bz 0 (qdy K)
abbrev P5 (K:KT):KT:=(qdz K)
theorem qgs (a0 a1:AV) (m:af):AC ae 204 [a0,a1] m=(aO false a0).bind fun v1=>(ag .other .add v1 (.int .i64 1)).bind fun v2=>(iP none 161 none (.int .u32 0) 4 m v2 v2).bind fun r3=>(aO false a0).bind fun v4=>Gs a1 r3.1 a0 v4 (.int .i64 0) r3.2 (P5 (aE ae.P f204.results.toList)):=
(bm ae 204 [a0,a1] m (fn:=f204) (c:=aB f204) qi0 rfl).trans (by kernel_rfl)
theorem QT (x1 x5 aN aX aV:AV) (m:af) (K:KT):Gs x1 x5 aN aX aV m K=(ag .other .lss aV aX).bind fun v1=>aw v1 ((aH none aN aV).bind fun v2=>(aj none m v2).bind fun v3=>(aH none x5 aV).bind fun v4=>(aj none m v4).bind fun v5=>(ag .other .shl v3 x1).bind fun v6=>(ag .other .or v5 v6).bind fun v7=>(aH none x5 aV).bind fun v8=>(aL none m v8 v7).bind fun m9=>(ag .other .add aV (.int .i64 1)).bind fun v10=>(bn .u64 v3).bind fun v11=>(ag .other .shl v11 x1).bind fun v12=>(ag .other .shr v12 (.int .u64 32)).bind fun bu=>(bn .u32 bu).bind fun bq=>(aH none x5 v10).bind fun br=>(aL none m9 br bq).bind fun m16=>(ag .other .add aV (.int .i64 1)).bind fun bH=>Gs x1 x5 aN aX bH m16 K) (K (.exit 0) (K1 x5 m)):=
(cg (bW _) _ _ _).trans (by kernel_rfl)
theorem qdA (x5:AV) (m:af):P5 (aE ae.P f204.results.toList) (.exit 0) (K1 x5 m)=some (x5,m):=by kernel_rfl
theorem qgn (a0:AV) (m:af):AC ae 199 [a0] m=(ag .other .geq a0 (.int .u32 65536)).bind fun v1=>aw v1 ((ag .other .shr a0 (.int .u64 16)).bind fun v2=>(ag .other .geq v2 (.int .u32 256)).bind fun v3=>aw v3 ((ag .other .shr v2 (.int .u64 8)).bind fun v4=>(ag .other .add (.int .i64 16) (.int .i64 8)).bind fun v5=>(bn .u8 v4).bind fun v6=>(sR (.str ⟨⟨[0,1,2,2,3,3,3,3,4,4,4,4,4,4,4,4,5,5,5,5,5,5,5,5,5,5,5,5,5,5,5,5,6,6,6,6,6,6,6,6,6,6,6,6,6,6,6,6,6,6,6,6,6,6,6,6,6,6,6,6,6,6,6,6,7,7,7,7,7,7,7,7,7,7,7,7,7,7,7,7,7,7,7,7,7,7,7,7,7,7,7,7,7,7,7,7,7,7,7,7,7,7,7,7,7,7,7,7,7,7,7,7,7,7,7,7,7,7,7,7,7,7,7,7,7,7,7,7,8,8,8,8,8,8,8,8,8,8,8,8,8,8,8,8,8,8,8,8,8,8,8,8,8,8,8,8,8,8,8,8,8,8,8,8,8,8,8,8,8,8,8,8,8,8,8,8,8,8,8,8,8,8,8,8,8,8,8,8,8,8,8,8,8,8,8,8,8,8,8,8,8,8,8,8,8,8,8,8,8,8,8,8,8,8,8,8,8,8,8,8,8,8,8,8,8,8,8,8,8,8,8,8,8,8,8,8,8,8,8,8,8,8,8,8,8,8,8,8,8,8,8,8,8,8,8,8]⟩⟩) v6).bind fun v7=>(bn .i64 v7).bind fun v8=>(ag .other .add v5 v8).bind fun v9=>some (v9,m)) ((bn .u8 v2).bind fun v10=>(sR (.str ⟨⟨[0,1,2,2,3,3,3,3,4,4,4,4,4,4,4,4,5,5,5,5,5,5,5,5,5,5,5,5,5,5,5,5,6,6,6,6,6,6,6,6,6,6,6,6,6,6,6,6,6,6,6,6,6,6,6,6,6,6,6,6,6,6,6,6,7,7,7,7,7,7,7,7,7,7,7,7,7,7,7,7,7,7,7,7,7,7,7,7,7,7,7,7,7,7,7,7,7,7,7,7,7,7,7,7,7,7,7,7,7,7,7,7,7,7,7,7,7,7,7,7,7,7,7,7,7,7,7,7,8,8,8,8,8,8,8,8,8,8,8,8,8,8,8,8,8,8,8,8,8,8,8,8,8,8,8,8,8,8,8,8,8,8,8,8,8,8,8,8,8,8,8,8,8,8,8,8,8,8,8,8,8,8,8,8,8,8,8,8,8,8,8,8,8,8,8,8,8,8,8,8,8,8,8,8,8,8,8,8,8,8,8,8,8,8,8,8,8,8,8,8,8,8,8,8,8,8,8,8,8,8,8,8,8,8,8,8,8,8,8,8,8,8,8,8,8,8,8,8,8,8,8,8,8,8,8,8]⟩⟩) v10).bind fun v11=>(bn .i64 v11).bind fun v12=>(ag .other .add (.int .i64 16) v12).bind fun bu=>some (bu,m))) ((ag .other .geq a0 (.int .u32 256)).bind fun bq=>aw bq ((ag .other .shr a0 (.int .u64 8)).bind fun br=>(ag .other .add (.int .i64 0) (.int .i64 8)).bind fun bT=>(bn .u8 br).bind fun bH=>(sR (.str ⟨⟨[0,1,2,2,3,3,3,3,4,4,4,4,4,4,4,4,5,5,5,5,5,5,5,5,5,5,5,5,5,5,5,5,6,6,6,6,6,6,6,6,6,6,6,6,6,6,6,6,6,6,6,6,6,6,6,6,6,6,6,6,6,6,6,6,7,7,7,7,7,7,7,7,7,7,7,7,7,7,7,7,7,7,7,7,7,7,7,7,7,7,7,7,7,7,7,7,7,7,7,7,7,7,7,7,7,7,7,7,7,7,7,7,7,7,7,7,7,7,7,7,7,7,7,7,7,7,7,7,8,8,8,8,8,8,8,8,8,8,8,8,8,8,8,8,8,8,8,8,8,8,8,8,8,8,8,8,8,8,8,8,8,8,8,8,8,8,8,8,8,8,8,8,8,8,8,8,8,8,8,8,8,8,8,8,8,8,8,8,8,8,8,8,8,8,8,8,8,8,8,8,8,8,8,8,8,8,8,8,8,8,8,8,8,8,8,8,8,8,8,8,8,8,8,8,8,8,8,8,8,8,8,8,8,8,8,8,8,8,8,8,8,8,8,8,8,8,8,8,8,8,8,8,8,8,8,8]⟩⟩) bH).bind fun fI=>(bn .i64 fI).bind fun dG=>(ag .other .add bT dG).bind fun v20=>some (v20,m)) ((bn .u8 a0).bind fun v21=>(sR (.str ⟨⟨[0,1,2,2,3,3,3,3,4,4,4,4,4,4,4,4,5,5,5,5,5,5,5,5,5,5,5,5,5,5,5,5,6,6,6,6,6,6,6,6,6,6,6,6,6,6,6,6,6,6,6,6,6,6,6,6,6,6,6,6,6,6,6,6,7,7,7,7,7,7,7,7,7,7,7,7,7,7,7,7,7,7,7,7,7,7,7,7,7,7,7,7,7,7,7,7,7,7,7,7,7,7,7,7,7,7,7,7,7,7,7,7,7,7,7,7,7,7,7,7,7,7,7,7,7,7,7,7,8,8,8,8,8,8,8,8,8,8,8,8,8,8,8,8,8,8,8,8,8,8,8,8,8,8,8,8,8,8,8,8,8,8,8,8,8,8,8,8,8,8,8,8,8,8,8,8,8,8,8,8,8,8,8,8,8,8,8,8,8,8,8,8,8,8,8,8,8,8,8,8,8,8,8,8,8,8,8,8,8,8,8,8,8,8,8,8,8,8,8,8,8,8,8,8,8,8,8,8,8,8,8,8,8,8,8,8,8,8,8,8,8,8,8,8,8,8,8,8,8,8,8,8,8,8,8,8]⟩⟩) v21).bind fun v22=>(bn .i64 v22).bind fun v23=>(ag .other .add (.int .i64 0) v23).bind fun v24=>some (v24,m))):=
(bm ae 199 [a0] m (fn:=f199) (c:=aB f199) qiV rfl).trans (by kernel_rfl)
end
end Go.Ab
namespace Go.Ab
open Go.Proofs.Tryz
theorem qfj (x:NV) (m:af) (K:KT):∀ n:Nat,n<=x.ds.length->x.ds.length < 2 ^ 62->Ge x.av (.int .i64 n) m K=K (.exit 0) (GP x.av (.int .i64 (lW x.ds n)) m):=by
 intro n
 induction n with
 | zero=>
  intro _ _;rw[Qy];simp[ir,aw,lW]
 | succ n ih=>
  intro hn hl;have ih:=ih (by omega) hl;rw[Qy];have h1:((n+1:Nat):Int) > 0:=by omega
  have h2:IntKind.wrap .i64 (((n+1:Nat):Int) - 1)=n:=by rw[iQ]<;>omega
  simp only[ir,aa,aA,an h1,pB,h2];rw[NV.av,tY (by omega) (by omega)];simp only[aa,fV,dg,iS,aA,cK];rw[lW]
  by_cases h:x.ds.getD n 0=0
  ·rw[an (by omega),an h];exact ih
  ·rw[ai (by omega),ai h]
theorem qgc (x:NV) (m:af) (hl:x.ds.length < 2 ^ 62):AC ae 164 [x.av] m=some (NV.av ⟨x.z,.no,tr x.ds⟩,m):=by
 rw[qgb];simp only[NV.av,o0,aa,bX];have:=qfj x m (J0 (aE ae.P f164.results.toList)) x.ds.length (aQ _) hl;rw[NV.av] at this;rw[this,qb9,YX (by omega) (by have:=EH x.ds x.ds.length;omega)];simp[tr]
theorem q8 (x:NV) (hl:x.ds.length < 2 ^ 62):AP ae 164 [x.av]=some (NV.av ⟨x.z,.no,tr x.ds⟩):=
 iK (qgc x [] hl) (cF _ _) (by simp[pO])
theorem qfh (x y:NV) (m:af) (K:KT) (hl:x.ds.length < 2 ^ 62):∀ n:Nat,n<=x.ds.length->n<=y.ds.length ->
  F3 x.av y.av (.int .i64 ((n:Int) - 1)) m K=if mC x.ds y.ds n=0 then K (.exit 1) (KG m) else K .ret (GZ (.int .i64 (mC x.ds y.ds n)) m):=by
 intro n
 induction n with
 | zero=>
  intro _ _;rw[Qo];simp[jZ,aw,mC]
 | succ n ih=>
  intro hx hy;have ih:=ih (by omega) (by omega);rw[Qo];have h1:((n+1:Nat):Int) - 1=n:=by omega
  have h0:(n:Int)≥0:=by omega
  have h2:IntKind.wrap .i64 ((n:Int) - 1)=(n:Int) - 1:=by rw[iQ]<;>omega
  simp only[h1,jZ,aa,aA,an h0];simp only[NV.av] at ih ⊢;rw[tY (by omega) (by omega),tY (by omega) (by omega)];simp only[aa,fV,dg,bh,ir,aA,cK,pB,h2];rw[mC]
  by_cases h:x.ds.getD n 0 < y.ds.getD n 0
  ·rw[an (by omega),an h]
   rfl
  ·rw[ai (by omega),ai h]
   by_cases h':x.ds.getD n 0 > y.ds.getD n 0
   ·rw[an (by omega),an h']
    rfl
   ·rw[ai (by omega),ai h'];exact ih
theorem qfV (x y:NV) (m:af) (hx:x.ds.length < 2 ^ 62) (hy:y.ds.length < 2 ^ 62):AC ae 131 [x.av,y.av] m=some (.int .i64 (uN (tr x.ds) (tr y.ds)),m):=by
 have ha:(tr x.ds).length < 2 ^ 62:=by simp only[tr,jP];omega
 rw[qfU,cJ (cF x),q8 x.fr hx];simp only[aR,aa,cJ (cF y),q8 y.fr hy];simp only[NV.av,o0,bX,aa,bh,ir,aA,pB,NV.fr];unfold uN
 by_cases h:(tr x.ds).length < (tr y.ds).length
 ·rw[an (by omega),an h]
 ·rw[ai (by omega),ai h]
  by_cases h':(tr x.ds).length > (tr y.ds).length
  ·rw[an (by omega),an h']
  ·rw[ai (by omega),ai h',iQ (by omega) (by omega)];have:=qfh ⟨x.z,.no,tr x.ds⟩ ⟨y.z,.no,tr y.ds⟩ m (Fl (aE ae.P f131.results.toList)) ha (tr x.ds).length (aQ _) (by simp only;omega);simp only[NV.av] at this;rw[this,qbz,qby]
   split
   ·rename_i h0;rw[h0]
   ·rfl
theorem qfu (x y:NV) (hx:x.ds.length < 2 ^ 62) (hy:y.ds.length < 2 ^ 62):AP ae 131 [x.av,y.av]=some (.int .i64 (uN (tr x.ds) (tr y.ds))):=
 iK (qfV x y [] hx hy) (gh _ _ _) (by simp[jd])
theorem Qm (x y:NV) (m:af) (K:KT) (hl:x.ds.length < 2 ^ 40) (hy:y.ds.length<=x.ds.length) (dx:Dg x.ds) (dy:Dg y.ds):∀ j i:Nat,i+j=x.ds.length ->
  zP y.av (.lst none false (.tok m.length 161) ((cL x.ds y.ds i).1.map dg)) (.int .u64 (cL x.ds y.ds i).2) x.av (.int .i64 x.ds.length) (.int .i64 i) (nU m i) K
   = K (.exit 0) (GN (.lst none false (.tok m.length 161) ((cL x.ds y.ds x.ds.length).1.map dg)) (.int .u64 (cL x.ds y.ds x.ds.length).2) (nU m x.ds.length)):=by
 intro j
 induction j with
 | zero=>
  intro i hi;have:i=x.ds.length:=by omega
  subst this;rw[Qn];simp[bh,aw]
 | succ j ih=>
  intro i hi;have ih:=ih (i+1) (by omega);have hc:=xU dx dy i;have h1:=dx i;have h2:=dy i;rw[Qn];have fQ:((i:Nat):Int) < (x.ds.length:Int):=by omega
  have hw:IntKind.wrap .i64 ((i:Int)+1)=((i+1:Nat):Int):=by rw[iQ]<;>omega
  simp only[bh,aa,aA,an fQ];simp only[NV.av] at ih ⊢
  have nb:aH none (.lst none x.z x.o (x.ds.map dg)) (.int .i64 i)=some (.vptr [dg (x.ds.getD i 0)]):=by
   rw[tY (by omega) (by omega)];simp
  rw[nb];have e1:IntKind.wrap .u64 ((x.ds.getD i 0:Nat):Int)=(x.ds.getD i 0:Nat):=by rw[jv]<;>omega
  have e2:IntKind.wrap .u64 (((cL x.ds y.ds i).2:Int)+(x.ds.getD i 0:Nat))=(((cL x.ds y.ds i).2+x.ds.getD i 0:Nat):Int):=by rw[jv]<;>omega
  simp only[aa,fV,dg,lZ,e1,kX,e2,o0,bX,bh,aA,hw]
  have fin:∀ s:Nat,s=(cL x.ds y.ds i).2+x.ds.getD i 0+y.ds.getD i 0->(b8 none false 161 none 4 (nU m i) (.lst none false (.tok m.length 161) ((cL x.ds y.ds i).1.map dg)) (.lst none false .full [.int .u32 (IntKind.wrap .u32 s)]))=some (.lst none false (.tok m.length 161) ((cL x.ds y.ds (i+1)).1.map dg),nU m (i+1)):=by
   intro s hs;have hlen:((cL x.ds y.ds i).1.map dg).length=i:=by rw[bX,vZ]
   have:=C8 (e:=161) (b:=4) (m:=m) (es:=(cL x.ds y.ds i).1.map dg) (z:=false) (o:=.full) (y:=.int .u32 (IntKind.wrap .u32 s)) (by rw[hlen];simp only[gG];omega);rw[hlen] at this;rw[this];congr 3;simp only[cL,kU,gd,qU,dg,xm,<- hs]
   rfl
  by_cases h:(i:Int) < (y.ds.length:Int)
  ·rw[an h]
   have qlJ:aH none (.lst none y.z y.o (y.ds.map dg)) (.int .i64 i)=some (.vptr [dg (y.ds.getD i 0)]):=by
    rw[tY (by omega) (by omega)];simp
   have e3:IntKind.wrap .u64 ((y.ds.getD i 0:Nat):Int)=(y.ds.getD i 0:Nat):=by rw[jv]<;>omega
   have e4:IntKind.wrap .u64 ((((cL x.ds y.ds i).2+x.ds.getD i 0:Nat):Int)+(y.ds.getD i 0:Nat))=(((cL x.ds y.ds i).2+x.ds.getD i 0+y.ds.getD i 0:Nat):Int):=by rw[jv]<;>omega
   have Vm:=qlJ;simp only[dg] at Vm;rw[Vm];simp only[aa,fV,lZ,e3,kX,e4,rh];have f:=fin _ rfl;rw[f];simp only[aa,C9 _ _ _ (rQ _),hw];exact ih
  ·rw[ai h]
   have h0:y.ds.getD i 0=0:=by
    rw[aS,n5 (by omega)];rfl
   simp only[aa,lZ,rh];have f:=fin ((cL x.ds y.ds i).2+x.ds.getD i 0) (by omega);rw[f];simp only[aa,C9 _ _ _ (rQ _),kX,hw];have:(cL x.ds y.ds (i+1)).2=((cL x.ds y.ds i).2+x.ds.getD i 0) / 4294967296:=by simp only[cL,h0,jF]
   rw[this] at ih;exact ih
theorem P0 (a b:List Nat) (m:af) (hl:a.length < 2 ^ 40) (da:Dg a) (db:Dg b):zK (aE ae.P f130.results.toList) (.exit 0) (GN (.lst none false (.tok m.length 161) ((cL a b a.length).1.map dg)) (.int .u64 (cL a b a.length).2) (nU m a.length))=some (NV.av ⟨false,.no,C5 a b⟩,nU m (a.length+1)):=by
 have hc:=xU da db a.length;have hlen:((cL a b a.length).1.map dg).length=a.length:=by rw[bX,vZ]
 rw[qbv];simp only[lZ,aa,rh,zz (rQ _) (by omega:(((cL a b a.length).2:Nat):Int) < 4294967296)];have:=C8 (e:=161) (b:=4) (m:=m) (es:=(cL a b a.length).1.map dg) (z:=false) (o:=.full) (y:=.int .u32 (cL a b a.length).2) (by rw[hlen];simp only[gG];omega);rw[hlen] at this;rw[this];simp only[aa];have e:(AV.lst none false (.tok m.length 161) ((cL a b a.length).1.map dg++[.int .u32 (cL a b a.length).2]))=NV.av ⟨false,.tok m.length 161,(cL a b a.length).1++[(cL a b a.length).2]⟩:=by simp[NV.av,dg]
 rw[e,cJ (cF _),q8 _ (by simp only[NV.fr,aI,vZ,aJ,aP];omega)]
 rfl
theorem qfT (x y:NV) (m:af) (hx:x.ds.length < 2 ^ 40) (hy:y.ds.length < 2 ^ 40) (dx:Dg x.ds) (dy:Dg y.ds):∃ m',AC ae 130 [x.av,y.av] m=some (NV.av ⟨false,.no,As (tr x.ds) (tr y.ds)⟩,m'):=by
 have iu:=BO x.ds;have yO:=BO y.ds;have dx':=tc dx;have dy':=tc dy;rw[qfS,cJ (cF x),q8 x.fr (by simp only[NV.fr];omega)];simp only[aR,aa,cJ (cF y),q8 y.fr (by simp only[NV.fr];omega)];simp only[NV.av,o0,bX,aa,bh,aA,kX,NV.fr];unfold As
 by_cases h:(tr x.ds).length < (tr y.ds).length
 ·rw[an (by omega),an h,iQ (by omega) (by omega),W0 (by omega) (by omega) (by omega)];simp only[aa];have:=Qm ⟨y.z,.no,tr y.ds⟩ ⟨x.z,.no,tr x.ds⟩ m (zK (aE ae.P f130.results.toList)) (by simp only;omega) (by simp only;omega) dy' dx' (tr y.ds).length 0 (by simp);simp only[NV.av,cL,qU] at this;refine ⟨_,this.trans (P0 (tr y.ds) (tr x.ds) m (by omega) dy' dx')⟩
 ·rw[ai (by omega),ai h,iQ (by omega) (by omega),W0 (by omega) (by omega) (by omega)];simp only[aa];have:=Qm ⟨x.z,.no,tr x.ds⟩ ⟨y.z,.no,tr y.ds⟩ m (zK (aE ae.P f130.results.toList)) (by simp only;omega) (by simp only;omega) dx' dy' (tr x.ds).length 0 (by simp);simp only[NV.av,cL,qU] at this;refine ⟨_,this.trans (P0 (tr x.ds) (tr y.ds) m (by omega) dx' dy')⟩
theorem qft (x y:NV) (hx:x.ds.length < 2 ^ 40) (hy:y.ds.length < 2 ^ 40) (dx:Dg x.ds) (dy:Dg y.ds):AP ae 130 [x.av,y.av]=some (NV.av ⟨false,.no,As (tr x.ds) (tr y.ds)⟩):=by
 obtain ⟨m',h⟩:=qfT x y [] hx hy dx dy;exact iK h (cF _ _) (by simp[pO])
theorem qfg (y:NV) (m:af) (K:KT) (x i n:Nat) (s:List Nat×Nat) (v21 v22 v23:AV) (hl:n < 2 ^ 42) (hn:s.1.length=n) (hi:i+y.ds.length<=n) (dy:Dg y.ds) (hx:x < 4294967296) (hs:Dg s.1) (hc:s.2 < 4294967296):∀ j k:Nat,k+j=y.ds.length ->
  FY y.av (.arr m.length 0 n none) (.int .i64 i) (dg x) (.int .u64 (gR y.ds x i k s).2) v21 v22 v23 y.av (.int .i64 y.ds.length) (.int .i64 k) (np m (gR y.ds x i k s).1) K
   = K (.exit 2) (KF y.av (.arr m.length 0 n none) (.int .i64 i) (.int .u64 (gR y.ds x i y.ds.length s).2) v21 v22 v23 (np m (gR y.ds x i y.ds.length s).1)):=by
 intro j
 induction j with
 | zero=>
  intro k hk;have:k=y.ds.length:=by omega
  subst this;rw[Qk];simp[bh,aw]
 | succ j ih=>
  intro k hk;have ih:=ih (k+1) (by omega);obtain ⟨h1,h2⟩:=Bp (i:=i) dy hx hs hc k;have h3:=h1 (i+k);have h4:=dy k;have h5:x * y.ds.getD k 0<=4294967295 * 4294967295:=qX (by omega) (by omega);have hlen:=w4 y.ds x i s k;rw[Qk];have bO:((k:Nat):Int) < (y.ds.length:Int):=by omega
  have hw:IntKind.wrap .i64 ((k:Int)+1)=((k+1:Nat):Int):=by rw[iQ]<;>omega
  have Ii:IntKind.wrap .i64 ((i:Int)+k)=((i+k:Nat):Int):=by rw[iQ]<;>omega
  simp only[bh,aa,aA,an bO]
  have nb:aH none y.av (.int .i64 k)=some (.vptr [dg (y.ds.getD k 0)]):=by
   rw[NV.av,tY (by omega) (by omega)];simp
  rw[nb];simp only[aa,fV,kX,Ii];rw[fZ (by omega),aa,qm6 (by omega)];have e1:IntKind.wrap .u64 (((gR y.ds x i k s).1.getD (i+k) 0:Nat):Int)=((gR y.ds x i k s).1.getD (i+k) 0:Nat):=by rw[jv]<;>omega
  have e2:IntKind.wrap .u64 ((x:Nat):Int)=x:=by rw[jv]<;>omega
  have e3:IntKind.wrap .u64 ((y.ds.getD k 0:Nat):Int)=(y.ds.getD k 0:Nat):=by rw[jv]<;>omega
  have e4:IntKind.wrap .u64 ((x:Int) * (y.ds.getD k 0:Nat))=((x * y.ds.getD k 0:Nat):Int):=by rw[<- qR,jv]<;>omega
  have e5:IntKind.wrap .u64 ((((gR y.ds x i k s).1.getD (i+k) 0:Nat):Int)+(x * y.ds.getD k 0:Nat))=(((gR y.ds x i k s).1.getD (i+k) 0+x * y.ds.getD k 0:Nat):Int):=by rw[jv]<;>omega
  have e6:IntKind.wrap .u64 (((gR y.ds x i k s).2:Int)+((gR y.ds x i k s).1.getD (i+k) 0+x * y.ds.getD k 0:Nat))=(((gR y.ds x i k s).2+((gR y.ds x i k s).1.getD (i+k) 0+x * y.ds.getD k 0):Nat):Int):=by rw[jv]<;>omega
  have e7:IntKind.wrap .u32 (((gR y.ds x i k s).2+((gR y.ds x i k s).1.getD (i+k) 0+x * y.ds.getD k 0):Nat):Int)=((((gR y.ds x i k s).2+((gR y.ds x i k s).1.getD (i+k) 0+x * y.ds.getD k 0)) % 4294967296:Nat):Int):=by rw[xm];rfl
  simp only[dg,aa,lZ,e1,e2,e3,we,e4,e5,e6,e7,kX,Ii];rw[BJ (by omega)];simp only[aa,C9 _ _ _ (rQ _),hw];exact ih
theorem qff (x y:NV) (m:af) (K:KT) (hx:x.ds.length < 2 ^ 40) (hy:y.ds.length < 2 ^ 40) (dx:Dg x.ds) (dy:Dg y.ds):∀ j i:Nat,i+j=x.ds.length ->
  FX y.av (.arr m.length 0 (x.ds.length+y.ds.length) none) x.av (.int .i64 x.ds.length) (.int .i64 i) (np m (iU x.ds y.ds i)) K
   = K (.exit 0) (KE (.arr m.length 0 (x.ds.length+y.ds.length) none) (np m (iU x.ds y.ds x.ds.length))):=by
 intro j
 induction j with
 | zero=>
  intro i hi;have:i=x.ds.length:=by omega
  subst this;rw[Qj];simp[bh,aw]
 | succ j ih=>
  intro i hi;have ih:=ih (i+1) (by omega);rw[Qj];have fQ:((i:Nat):Int) < (x.ds.length:Int):=by omega
  have hw:IntKind.wrap .i64 ((i:Int)+1)=((i+1:Nat):Int):=by rw[iQ]<;>omega
  have Ii:IntKind.wrap .i64 ((i:Int)+y.ds.length)=((i+y.ds.length:Nat):Int):=by rw[iQ]<;>omega
  simp only[bh,aa,aA,an fQ]
  have nb:aH none x.av (.int .i64 i)=some (.vptr [dg (x.ds.getD i 0)]):=by
   rw[NV.av,tY (by omega) (by omega)];simp
  have hlen:aO false y.av=some (.int .i64 y.ds.length):=by simp[NV.av,aO]
  rw[nb];simp only[aa,fV,hlen];have hb:=qfg y m (JV K) (x.ds.getD i 0) i (x.ds.length+y.ds.length) (iU x.ds y.ds i,0) x.av (.int .i64 x.ds.length) (.int .i64 i) (by omega) (wZ ..) (by omega) dy (dx i) (yY dx dy i) (by simp) y.ds.length 0 (by omega);simp only[gR] at hb;refine hb.trans ?_;obtain ⟨h1,h2⟩:=Bp (i:=i) (s:=(iU x.ds y.ds i,0)) dy (dx i) (yY dx dy i) (by simp) y.ds.length;have hl:=w4 y.ds (x.ds.getD i 0) i (iU x.ds y.ds i,0) y.ds.length;simp only[wZ] at hl;rw[qbo];simp only[hlen,aa,kX,Ii,lZ,zz (rQ _) (by omega:(((gR y.ds (x.ds.getD i 0) i y.ds.length (iU x.ds y.ds i,0)).2:Nat):Int) < 4294967296)];rw[fZ (by omega),aa,BJ (by omega)];simp only[aa,hw];exact ih
theorem qfP (x y:NV) (m:af) (hx:x.ds.length < 2 ^ 40) (hy:y.ds.length < 2 ^ 40) (dx:Dg x.ds) (dy:Dg y.ds):AC ae 127 [x.av,y.av] m=some (NV.av ⟨false,.no,Ek (tr x.ds) (tr y.ds)⟩,m++[none]):=by
 have iu:=BO x.ds;have yO:=BO y.ds;rw[qfO,cJ (cF x),q8 x.fr (by simp only[NV.fr];omega)];simp only[aR,aa,cJ (cF y),q8 y.fr (by simp only[NV.fr];omega)];have hl:∀ x:NV,aO false x.av=some (.int .i64 x.ds.length):=fun x=>by simp[NV.av,aO]
 have hw:IntKind.wrap .i64 (((tr x.ds).length:Int)+(tr y.ds).length)=(((tr x.ds).length+(tr y.ds).length:Nat):Int):=by rw[iQ]<;>omega
 simp only[hl,aa,kX,NV.fr,hw];rw[WZ (by omega) (by omega)];simp only[aa];have:=qff ⟨x.z,.no,tr x.ds⟩ ⟨y.z,.no,tr y.ds⟩ m (JU (aE ae.P f127.results.toList)) (by simp only;omega) (by simp only;omega) (tc dx) (tc dy) (tr x.ds).length 0 (by simp);refine this.trans ?_;rw[qbj];have hlen:=wZ (tr x.ds) (tr y.ds) (tr x.ds).length;have hp:=qoe (cp:=AP ae) (m:=m) (g:=164) (ds:=iU (tr x.ds) (tr y.ds) (tr x.ds).length);rw[hlen] at hp;rw[hp];have:=q8 ⟨false,.no,iU (tr x.ds) (tr y.ds) (tr x.ds).length⟩ (by simp only[hlen];omega);simp only[NV.av] at this;rw[this]
 rfl
theorem qfs (x y:NV) (hx:x.ds.length < 2 ^ 40) (hy:y.ds.length < 2 ^ 40) (dx:Dg x.ds) (dy:Dg y.ds):AP ae 127 [x.av,y.av]=some (NV.av ⟨false,.no,Ek (tr x.ds) (tr y.ds)⟩):=
 iK (qfP x y [] hx hy dx dy) (cF _ _) (by simp[pO])
def NV.ok (x:NV):Prop:=x.z=true->x.ds=[]
def tD (x:NV):NV:=⟨x.z,if x.ds=[] then .full else .no,x.ds⟩
theorem RC (x:NV) (hz:x.ok) (hx:x.ds.length < 2 ^ 40):AP ae 163 [x.av]=some (tD x).av:=by
 have h0:ag .sl .eql x.av au=some (.bool x.z):=rfl;obtain ⟨z,o,ds⟩:=x
 cases z with
 | true=>
  have:ds=[]:=hz rfl;subst this;refine iK (v:=NV.av ⟨true,.full,[]⟩) (m:=[]) ?_ (cF _ _) (by simp[pO]);rw[Lq,h0]
  rfl
 | false=>
  cases ds with
  | nil=>
   refine iK (v:=NV.av ⟨false,.full,[]⟩) (m:=[]) ?_ (cF _ _) (by simp[pO]);rw[Lq,h0]
   rfl
  | cons d ds=>
   refine iK (v:=NV.av ⟨false,.tok 0 161,d::ds⟩) (m:=[some (.tok (d::ds).length 1)]) ?_ (cF _ _) (by simp[pO]);rw[Lq,h0];have hl:(ds.length+1) * 4<=140737488355328:=by simp only[aJ] at hx;omega
   simp only[aa,aw,dO,List.all_nil,bw,qU,NV.av,gd,b8,aP,aJ,bX,bp,gG,hl,true_or,jX,me,az,bV,Sh.size]
theorem qkj (x:NV):(tD x).fr=tD x:=by
 unfold tD NV.fr;simp only[];split<;>rfl
theorem qk4 (x:NV):Fz (tD x).av (tD x).av:=by
 have:=cF (tD x)
 rwa [qkj] at this
def OE (n:Nat):List Nat:=tr [n % 4294967296,n / 4294967296]
theorem qfr (n:Nat) (hn:n < 18446744073709551616):AP ae 123 [.int .u64 n]=some (tD ⟨false,.no,OE n⟩).av:=by
 have e1:IntKind.wrap .u32 (n:Int)=((n % 4294967296:Nat):Int):=by rw[xm];rfl
 have e2:IntKind.wrap .u32 ((n:Int) / 4294967296)=((n / 4294967296:Nat):Int):=by rw[zz]<;>omega
 have hb:dO none [.int .u32 ((n % 4294967296:Nat):Int),.int .u32 ((n / 4294967296:Nat):Int)]=some (NV.av ⟨false,.full,[n % 4294967296,n / 4294967296]⟩):=rfl;have hl:(tr [n % 4294967296,n / 4294967296]).length<=2:=BO _;refine iK (m:=[]) ?_ (qk4 _ _) (by simp[pO]);rw[qfM];simp only[lZ,aa,e1,C9 _ _ _ (rQ _),e2,hb];rw[cJ (cF _),q8 _ (by simp[NV.fr])];simp only[aR,aa];rw[cJ (cF _),RC _ (by simp[NV.ok,NV.fr]) (by simp only[NV.fr];omega)]
 rfl
def BD (a:List Nat):Bool:=decide (a.length=0) || decide (a.getD (a.length - 1) 0≠0)
theorem qfv (x:NV) (hx:x.ds.length < 2 ^ 40):AP ae 181 [x.av]=some (.bool (BD x.ds)):=by
 refine iK (m:=[]) ?_ (qv _ _) (by simp[jd]);have hl:aO false x.av=some (.int .i64 x.ds.length):=by simp[NV.av,aO]
 rw[qgj];simp only[hl,aa,iS,aA]
 by_cases h:x.ds.length=0
 ·rw[an (by omega)];simp[BD,h]
 ·rw[ai (by omega)];have hw:IntKind.wrap .i64 ((x.ds.length:Int) - 1)=((x.ds.length - 1:Nat):Int):=by rw[iQ]<;>omega
  simp only[pB,aa,hw]
  have nb:aH none x.av (.int .i64 ((x.ds.length - 1:Nat):Int))=some (.vptr [dg (x.ds.getD (x.ds.length - 1) 0)]):=by
   rw[NV.av,tY (by omega) (by omega)];simp
  rw[nb];simp only[aa,fV,dg,jg];congr 2;simp only[BD,h,decide_false,zG,AV.bool.injEq,jS];omega
def s8 (a:List Nat):AV:=match a with
 | []=>.tup [.int .u64 0,.bool true]
 | [d]=>.tup [.int .u64 d,.bool true]
 | [d,e]=>.tup [.int .u64 (d+e * 4294967296:Nat),.bool true]
 | _=>.tup [.int .u64 0,.bool false]
theorem HL (a:List Nat):Fz (s8 a) (s8 a)/\jd (s8 a)=true:=by
 unfold s8;split<;>exact ⟨fun _=>rfl,rfl⟩
theorem qfw (x:NV) (hx:x.ds.length < 2 ^ 40) (dx:Dg x.ds):AP ae 182 [x.av]=some (s8 (tr x.ds)):=by
 refine iK (m:=[]) ?_ ((HL _).1 _) (by simp[(HL _).2]);have hl:∀ x:NV,aO false x.av=some (.int .i64 x.ds.length):=fun x=>by simp[NV.av,aO]
 rw[qgk,cJ (cF x),q8 x.fr (by simp only[NV.fr];omega)];have dt:=tc dx;simp only[aR,aa,hl,iS,aA,NV.fr];generalize tr x.ds=a at dt
 match a,dt with
 | [],_=>rfl
 | [d],dt=>
  have h0:=dt 0;simp only[pq] at h0;rw[ai (by simp),an (by simp)];simp only[NV.av];rw[show aH none (.lst none x.z .no ([d].map dg)) (.int .i64 0)=some (.vptr [dg d]) from rfl];simp only[aa,fV,dg,lZ,jv (rQ d) (by omega)]
  rfl
 | [d,e],dt=>
  have h0:=dt 0;have h1:=dt 1;simp only[pq,xH] at h0 h1;rw[ai (by simp),ai (by simp),an (by simp)];simp only[NV.av];rw[show aH none (.lst none x.z .no ([d,e].map dg)) (.int .i64 0)=some (.vptr [dg d]) from rfl,show aH none (.lst none x.z .no ([d,e].map dg)) (.int .i64 1)=some (.vptr [dg e]) from rfl];simp only[aa,fV,dg,lZ,jv (rQ d) (by omega),jv (rQ e) (by omega),Tn _ _ e h1,qjU _ d e h0 h1]
  rfl
 | d::e::f::l,_=>
  rw[ai (by simp only[aJ];omega),ai (by simp only[aJ];omega),ai (by simp only[aJ];omega)]
  rfl
theorem qfi (x y:NV) (m:af) (K:KT) (hl:x.ds.length < 2 ^ 40) (dx:Dg x.ds) (dy:Dg y.ds):∀ j i:Nat,i+j=x.ds.length ->
  xF y.av (.arr m.length 0 x.ds.length none) (.int .u64 (gH x.ds y.ds i).2) x.av (.int .i64 x.ds.length) (.int .i64 i) (np m (gH x.ds y.ds i).1) K
   = K (.exit 0) (KH (.arr m.length 0 x.ds.length none) (np m (gH x.ds y.ds x.ds.length).1)):=by
 intro j
 induction j with
 | zero=>
  intro i hi;have:i=x.ds.length:=by omega
  subst this;rw[Qp];simp[bh,aw]
 | succ j ih=>
  intro i hi;have ih:=ih (i+1) (by omega);have hc:=Jn x.ds y.ds i;have hlen:=BM x.ds y.ds i;have h1:=dx i;have h2:=dy i;rw[Qp];have fQ:((i:Nat):Int) < (x.ds.length:Int):=by omega
  have hw:IntKind.wrap .i64 ((i:Int)+1)=((i+1:Nat):Int):=by rw[iQ]<;>omega
  have e1:IntKind.wrap .u64 ((x.ds.getD i 0:Nat):Int)=(x.ds.getD i 0:Nat):=by rw[jv]<;>omega
  have e2:IntKind.wrap .u64 ((y.ds.getD i 0:Nat):Int)=(y.ds.getD i 0:Nat):=by rw[jv]<;>omega
  have e3:IntKind.wrap .u64 (((gH x.ds y.ds i).2:Int)+(y.ds.getD i 0:Nat))=(((gH x.ds y.ds i).2+y.ds.getD i 0:Nat):Int):=by rw[jv]<;>omega
  have s1:ag .other .shl (.int .u64 1) (.int .u64 32)=some (.int .u64 4294967296):=rfl;have s0:ag .other .shl (.int .u64 0) (.int .u64 32)=some (.int .u64 0):=rfl;simp only[bh,aa,aA,an fQ,mN (by omega:i < x.ds.length),fV,iF]
  have big:∀ t:Nat,t=(gH x.ds y.ds i).2+y.ds.getD i 0->x.ds.getD i 0 < t->
    IntKind.wrap .u32 (IntKind.wrap .u64 (IntKind.wrap .u64 ((x.ds.getD i 0:Nat)+4294967296:Int) - (t:Nat)))=((x.ds.getD i 0+4294967296 - t:Nat):Int)/\gH x.ds y.ds (i+1)=((gH x.ds y.ds i).1.set i (x.ds.getD i 0+4294967296 - t),1):=by
   intro t ht hlt;refine ⟨?_,by simp only[gH,<- ht,an hlt]⟩;rw[jv (x:=((x.ds.getD i 0:Nat):Int)+4294967296) (by omega) (by omega),jv (by omega) (by omega),zz (by omega) (by omega)];omega
  have small:∀ t:Nat,t=(gH x.ds y.ds i).2+y.ds.getD i 0->¬ x.ds.getD i 0 < t->
    IntKind.wrap .u32 (IntKind.wrap .u64 (IntKind.wrap .u64 ((x.ds.getD i 0:Nat)+0:Int) - (t:Nat)))=((x.ds.getD i 0 - t:Nat):Int)/\gH x.ds y.ds (i+1)=((gH x.ds y.ds i).1.set i (x.ds.getD i 0 - t),0):=by
   intro t ht hlt;refine ⟨?_,by simp only[gH,<- ht,ai hlt]⟩;rw[jv (x:=((x.ds.getD i 0:Nat):Int)+0) (by omega) (by omega),jv (by omega) (by omega),zz (by omega) (by omega)];omega
  by_cases h:(i:Int) < (y.ds.length:Int)
  ·rw[an h,mN (by omega:i < y.ds.length)];simp only[aa,fV,dg,lZ,e1,e2,e3,kX,bh,aA]
   by_cases h3:x.ds.getD i 0 < (gH x.ds y.ds i).2+y.ds.getD i 0
   ·obtain ⟨b1,b2⟩:=big _ rfl h3;rw[an (by omega),s1];simp only[aa,kX,pB,lZ,b1,hw];rw[fZ (by omega),aa,BJ (by omega)];rw[b2] at ih;exact ih
   ·obtain ⟨b1,b2⟩:=small _ rfl h3;rw[ai (by omega),s0];simp only[aa,kX,pB,lZ,b1,hw];rw[fZ (by omega),aa,BJ (by omega)];rw[b2] at ih;exact ih
  ·rw[ai h];have h0:=ym h;simp only[aa,fV,dg,lZ,e1,bh,aA]
   by_cases h3:x.ds.getD i 0 < (gH x.ds y.ds i).2
   ·obtain ⟨b1,b2⟩:=big (gH x.ds y.ds i).2 (by omega) h3;rw[an (by omega),s1];simp only[aa,kX,pB,lZ,b1,hw];rw[fZ (by omega),aa,BJ (by omega)];rw[b2] at ih;exact ih
   ·obtain ⟨b1,b2⟩:=small (gH x.ds y.ds i).2 (by omega) h3;rw[ai (by omega),s0];simp only[aa,kX,pB,lZ,b1,hw];rw[fZ (by omega),aa,BJ (by omega)];rw[b2] at ih;exact ih
end Go.Ab
namespace Go.Ab
def iz (a:List Nat) (d:Nat):Nat->List Nat×Nat
 | 0=>(List.replicate a.length 0,0)
 | k+1=>((iz a d k).1.set (a.length - 1 - k) (((iz a d k).2 * 4294967296+a.getD (a.length - 1 - k) 0) / d),((iz a d k).2 * 4294967296+a.getD (a.length - 1 - k) 0) % d)
theorem xe (a:List Nat) (d:Nat):∀ k,(iz a d k).1.length=a.length
 | 0=>by simp[iz]
 | k+1=>by simp[iz,xe a d k]
theorem Jb {a:List Nat} {d:Nat} (hd:0 < d):∀ k,(iz a d k).2 < d
 | 0=>hd
 | k+1=>jY _ hd
theorem O8 {a:List Nat} {d:Nat} (ha:Dg a) (hd:0 < d) (k i:Nat):((iz a d k).2 * 4294967296+a.getD i 0) / d < 4294967296:=by
 have h1:=Jb (a:=a) hd k;have h2:=ha i;rw[uE hd];have:((iz a d k).2+1) * 4294967296<=d * 4294967296:=iM _ h1;rw[cM 4294967296 d];omega
theorem BI {a:List Nat} {d:Nat} (ha:Dg a) (hd:0 < d):∀ k,Dg (iz a d k).1
 | 0=>ye _
 | k+1=>(BI ha hd k).set _ _ (O8 ha hd k _)
theorem YS (a:List Nat) (d j:Nat):∀ k,j+k < a.length->(iz a d k).1.getD j 0=0
 | 0,_=>HM _ _
 | k+1,h=>by
  rw[iz];simp only[];rw[uT (by omega)];exact YS a d j k (by omega)
theorem YT {a:List Nat} {d:Nat} (hd:0 < d):∀ k,k<=a.length->val (iz a d k).1 * d+4294967296 ^ (a.length - k) * (iz a d k).2+vs a (a.length - k)=val a
 | 0,_=>by simp[iz,Jy,jn]
 | k+1,h=>by
  have ih:=YT (a:=a) hd k (by omega);obtain ⟨i,hi⟩:∃ i,i=a.length - 1 - k:=⟨_,rfl⟩;have e1:a.length - k=i+1:=by omega
  have e2:a.length - (k+1)=i:=by omega
  have hk:=YS a d i k (by omega);have hl:=xe a d k;rw[e1,jO,jR] at ih;rw[e2,iz,<- hi];generalize iz a d k=t at *;simp only[];have h1:=ES t.1 i ((t.2 * 4294967296+a.getD i 0) / d) (by omega);rw[hk,n8,jF] at h1;rw[h1,gO,dZ,mw (val t.1 * d),<- gB,cM (_ / _) d,uD];rw[<- ih,gB];have:4294967296 ^ i * (t.2 * 4294967296)=4294967296 ^ i * 4294967296 * t.2:=by rw[cM t.2,dZ]
  omega
def Jc (a:List Nat) (d:Nat):List Nat:=tr (iz a d a.length).1
theorem YU {a:List Nat} {d:Nat} (ha:Dg a) (hd:0 < d):Jc a d=aC (val a / d)/\(iz a d a.length).2=val a % d:=by
 have h:=YT (a:=a) hd a.length (aQ _);have h2:=Jb (a:=a) hd a.length;simp only[pz,Nat.pow_zero,px,rJ,jF] at h;rw[Jc,lC (BI ha hd _)]
 have e:val a / d=val (iz a d a.length).1/\val a % d=(iz a d a.length).2:=by
  rw[<- h]
  constructor
  ·rw[cM,Nat.mul_add_div hd,Aj h2];rfl
  ·rw[cM,Nat.mul_add_mod,lE h2]
 exact ⟨by rw[e.1],e.2.symm⟩
def wn (u:List Nat) (j:Nat):Nat->Nat
 | 0=>0
 | i+1=>wn u j i+4294967296 ^ i * u.getD (j+i) 0
theorem EX (u:List Nat):∀ i,wn u 0 i=vs u i
 | 0=>rfl
 | i+1=>by rw[wn,EX u i,jO,bp]
theorem zx {u:List Nat} (h:Dg u) (j:Nat):∀ i,wn u j i < 4294967296 ^ i
 | 0=>by simp[wn]
 | i+1=>by
  have ih:=zx h j i;have h1:=h (j+i);rw[wn,jR];have:4294967296 ^ i * (u.getD (j+i) 0+1)<=4294967296 ^ i * 4294967296:=kG _ h1;rw[gB] at this;omega
theorem ZD {u w:List Nat} {j:Nat}:∀ i,(∀ k,k < i->u.getD (j+k) 0=w.getD (j+k) 0)->wn u j i=wn w j i
 | 0,_=>rfl
 | i+1,h=>by rw[wn,wn,ZD i (fun k hk=>h k (by omega)),h i (by omega)]
theorem uk {u:List Nat} {j i p x:Nat} (h:p < j\/j+i<=p):wn (u.set p x) j i=wn u j i:=by
 apply ZD;intro k hk;exact uT (by omega)
theorem ZE (u:List Nat) (j i:Nat):∀ k,wn u j (i+k)=wn u j i+4294967296 ^ i * wn u (j+i) k
 | 0=>by simp[wn]
 | k+1=>by
  rw[<- mw,wn,ZE u j i k,wn,gB,qY,dZ,mw j,mw]
theorem EW (u:List Nat) (j i:Nat):wn u j (i+1)=u.getD j 0+4294967296 * wn u (j+1) i:=by
 rw[rZ i 1,ZE u j 1 i];simp[wn]
theorem PD {u:List Nat} {j:Nat}:∀ i,(∀ k,k < i->u.getD (j+k) 0=0)->wn u j i=0
 | 0,_=>rfl
 | i+1,h=>by rw[wn,PD i (fun k hk=>h k (by omega)),h i (by omega)];simp
def jD (a:List Nat) (s:Nat):Nat->List Nat
 | 0=>List.replicate (a.length+1) 0
 | i+1=>((jD a s i).set i ((jD a s i).getD i 0+a.getD i 0 * 2 ^ s % 4294967296)).set (i+1) (a.getD i 0 * 2 ^ s / 4294967296)
theorem zm (a:List Nat) (s:Nat):∀ i,(jD a s i).length=a.length+1
 | 0=>by simp[jD]
 | i+1=>by simp[jD,zm a s i]
theorem zd {s:Nat} (hs:s < 32):2 ^ s * 2 ^ (32 - s)=4294967296:=by
 rw[<- qY,show s+(32 - s)=32 by omega]
theorem MX {x s:Nat} (hx:x < 4294967296):x * 2 ^ s / 4294967296 < 2 ^ s:=by
 rw[uE (by omega)];rw[cM];exact Nat.mul_lt_mul_of_pos_left hx (uG s)
theorem WK {x s:Nat} (hs:s < 32):x * 2 ^ s % 4294967296+2 ^ s<=4294967296:=by
 have h:=zd hs
 have:x * 2 ^ s % 4294967296=x % 2 ^ (32 - s) * 2 ^ s:=by
  rw[<- h,cM (2 ^ s) (2 ^ (32 - s)),Nat.mul_mod_mul_right]
 rw[this];have h2:x % 2 ^ (32 - s) < 2 ^ (32 - s):=jY _ (uG _);have h3:(x % 2 ^ (32 - s)+1) * 2 ^ s<=2 ^ (32 - s) * 2 ^ s:=iM _ h2;rw[cM (2 ^ (32 - s)),h,gO] at h3;omega
theorem O7 {a:List Nat} {s:Nat} (ha:Dg a):∀ i,i<=a.length->(jD a s i).getD i 0 < 2 ^ s
 | 0,_=>by rw[jD,HM];exact uG s
 | i+1,h=>by
  have hl:=zm a s i;rw[jD,rm (by rw[a8];omega)];exact MX (ha i)
theorem O6 {a:List Nat} {s:Nat} (ha:Dg a) (hs:s < 32):∀ i,i<=a.length->Dg (jD a s i)
 | 0,_=>ye _
 | i+1,h=>by
  have h1:=O7 (s:=s) ha i (by omega);have h2:=WK (x:=a.getD i 0) hs;have h3:=MX (x:=a.getD i 0) (s:=s) (ha i);have h4:2 ^ s<=2 ^ 31:=py (by omega) (by omega);exact ((O6 ha hs i (by omega)).set _ _ (by omega)).set _ _ (by omega)
theorem YK {a:List Nat} {s:Nat}:∀ i,i<=a.length->wn (jD a s i) 0 (i+1)=2 ^ s * vs a i
 | 0,_=>by rw[jD,PD];rfl;intro k _;exact HM _ _
 | i+1,h=>by
  have ih:=YK (a:=a) (s:=s) i (by omega);have hl:=zm a s i;rw[wn,jD,uk (by omega),bp,rm (by rw[a8];omega),wn,uk (by omega),bp,rm (by omega)];rw[wn,bp] at ih;have e:=BB (4294967296 ^ i) 4294967296 (a.getD i 0 * 2 ^ s);rw[jO,gB (2 ^ s),<- ih,jR,Nat.mul_left_comm (2 ^ s),cM (2 ^ s),gB];omega
theorem YL {a:List Nat} {s:Nat}:val (jD a s a.length)=2 ^ s * val a:=by
 have h:=YK (a:=a) (s:=s) a.length (aQ _);rw[EX,jn (by rw[zm];omega),jn (aQ _)] at h;exact h
theorem qln {g r top v1 v2 u0 lo vlo p q:Nat} (h:g * v1+r=top) (hc:r * 4294967296+u0 < g * v2) (gY:lo < p)
  (hq:q * ((v1 * 4294967296+v2) * p+vlo)<=(top * 4294967296+u0) * p+lo):q < g:=by
 apply qj;intro hn;have hg:g<=q:=vR hn;have h1:g * ((v1 * 4294967296+v2) * p+vlo)<=q * ((v1 * 4294967296+v2) * p+vlo):=iM _ hg
 have h2:(top * 4294967296+u0+1) * p<=g * (v1 * 4294967296+v2) * p:=by
  apply iM;rw[gB,<- dZ,<- h];omega
 rw[gB,<- dZ] at h1;rw[gO _ 1,px] at h2;omega
theorem UI {g r top v1 v2 u0 lo vlo p U V:Nat} (h:g * v1+r=top) (hc:g * v2<=r * 4294967296+u0) (hg:g < 4294967296) (hv:vlo < p) (ke:0 < v1)
  (hU:U=(top * 4294967296+u0) * p+lo) (hV:V=(v1 * 4294967296+v2) * p+vlo):g * V < U+V:=by
 have h2:g * (v1 * 4294967296+v2) * p<=(top * 4294967296+u0) * p:=by
  apply iM;rw[gB,<- dZ,<- h];omega
 have h3:g * vlo<=4294967296 * p:=qX (by omega) (by omega)
 have h4:g * vlo < 4294967296 * p:=by
  rcases Nat.eq_zero_or_pos g with h0 | h0
  ·subst h0;rw[xN];omega
  ·exact Nat.mul_lt_mul'' hg hv
 have h5:1 * 4294967296 * p<=v1 * 4294967296 * p:=iM _ (iM _ ke);rw[hV,gB,<- dZ,gO (v1 * 4294967296)];omega
def jk (v:List Nat) (g j:Nat):Nat->List Nat->List Nat×Nat×Nat
 | 0,u=>(u,0,0)
 | i+1,u=>
  let t:=jk v g j i u
  let c:=t.2.2+g * v.getD i 0
  let y:=c % 4294967296+t.2.1
  if t.1.getD (i+j) 0 < y then (t.1.set (i+j) (t.1.getD (i+j) 0+4294967296 - y),1,c / 4294967296)
  else (t.1.set (i+j) (t.1.getD (i+j) 0 - y),0,c / 4294967296)
theorem Ej (v:List Nat) (g j:Nat) (u:List Nat):∀ i,(jk v g j i u).1.length=u.length
 | 0=>rfl
 | i+1=>by
  rw[jk];split<;>simp[Ej v g j u i]
theorem Ei (v:List Nat) (g j:Nat) (u:List Nat):∀ i,(jk v g j i u).2.1<=1
 | 0=>by simp[jk]
 | i+1=>by
  rw[jk];split<;>simp
theorem IC {v:List Nat} {g:Nat} (hv:Dg v) (hg:g < 4294967296) (j:Nat) (u:List Nat):∀ i,(jk v g j i u).2.2 < 4294967296
 | 0=>by simp[jk]
 | i+1=>by
  have ih:=IC hv hg j u i;have h4:=hv i;have h5:g * v.getD i 0<=4294967295 * 4294967295:=qX (by omega) (by omega);rw[jk];split<;>(simp only[];omega)
theorem ID {v u:List Nat} {g:Nat} (hu:Dg u) (j:Nat):∀ i,Dg (jk v g j i u).1
 | 0=>hu
 | i+1=>by
  have ih:=ID (v:=v) (g:=g) hu j i;have hb:=Ei v g j u i;have h1:=ih (i+j);rw[jk]
  split
  ·exact ih.set _ _ (by omega)
  ·exact ih.set _ _ (by omega)
theorem Of (v:List Nat) (g j:Nat) (u:List Nat) (k:Nat):∀ i,k < j\/i+j<=k->(jk v g j i u).1.getD k 0=u.getD k 0
 | 0,_=>rfl
 | i+1,h=>by
  have ih:=Of v g j u k i (by omega);rw[jk];split<;>simp only[]<;>rw[uT (by omega),ih]
theorem Og {v u:List Nat} {g:Nat} (hu:Dg u) (j:Nat):∀ i,i+j<=u.length->wn (jk v g j i u).1 j i+g * vs v i=wn u j i+4294967296 ^ i * ((jk v g j i u).2.2+(jk v g j i u).2.1)
 | 0,_=>by simp[jk,wn,rJ]
 | i+1,h=>by
  have ih:=Og (v:=v) (g:=g) hu j i (by omega);have hk:=Of v g j u (i+j) i (by omega);have hl:=Ej v g j u i;have hb:=Ei v g j u i;have hd:=hu (i+j);rw[wn.eq_2 u,jO,jR,gB,<- dZ g,cM g (4294967296 ^ i),dZ];rw[jk];generalize jk v g j i u=t at *;obtain ⟨t,b,c⟩:=t;simp only[] at *;rw[hk,rZ j i];have e:=BB (4294967296 ^ i) 4294967296 (c+g * v.getD i 0);generalize hc:c+g * v.getD i 0=C at *;rw[<- hc,gB,hc] at e;rw[gB] at ih
  split
  ·rename_i hlt;simp only[];rw[wn,uk (by omega),rZ j i,rm (by omega)];have e2:=X9 (4294967296 ^ i) 4294967296 (u.getD (i+j) 0) (C % 4294967296+b) (by omega);rw[gB _ (C % 4294967296)] at e2;rw[gB _ (C / 4294967296),kV];omega
  ·rename_i hlt;simp only[];rw[wn,uk (by omega),rZ j i,rm (by omega)];have e2:=IT (4294967296 ^ i) (u.getD (i+j) 0) (C % 4294967296+b) (by omega);rw[gB _ (C % 4294967296)] at e2;rw[jF];omega
def kn (v:List Nat) (j:Nat):Nat->List Nat->List Nat×Nat
 | 0,u=>(u,0)
 | i+1,u=>
  let t:=kn v j i u
  let c:=t.2+(t.1.getD (i+j) 0+v.getD i 0)
  (t.1.set (i+j) (c % 4294967296),c / 4294967296)
theorem C3 (v:List Nat) (j:Nat) (u:List Nat):∀ i,(kn v j i u).1.length=u.length
 | 0=>rfl
 | i+1=>by simp[kn,C3 v j u i]
theorem Hj {v u:List Nat} (hv:Dg v) (hu:Dg u) (j:Nat):∀ i,Dg (kn v j i u).1/\(kn v j i u).2<=1
 | 0=>⟨hu,by simp[kn]⟩
 | i+1=>by
  obtain ⟨h1,h2⟩:=Hj hv hu j i;have h3:=h1 (i+j);have h4:=hv i;refine ⟨h1.set _ _ (jY _ (by omega)),?_⟩;simp only[kn];omega
theorem LA (v:List Nat) (j:Nat) (u:List Nat) (k:Nat):∀ i,k < j\/i+j<=k->(kn v j i u).1.getD k 0=u.getD k 0
 | 0,_=>rfl
 | i+1,h=>by
  have ih:=LA v j u k i (by omega);rw[kn];simp only[];rw[uT (by omega),ih]
theorem S4 (v:List Nat) (j:Nat) (u:List Nat):∀ i,i+j<=u.length->wn (kn v j i u).1 j i+4294967296 ^ i * (kn v j i u).2=wn u j i+vs v i
 | 0,_=>by simp[kn,wn,rJ]
 | i+1,h=>by
  have ih:=S4 v j u i (by omega);have hk:=LA v j u (i+j) i (by omega);have hl:=C3 v j u i;rw[wn.eq_2 u,jO,jR];rw[kn];simp only[];generalize kn v j i u=t at *;rw[wn,uk (by omega),rZ j i,rm (by omega),hk];have e:=BB (4294967296 ^ i) 4294967296 (t.2+(u.getD (i+j) 0+v.getD i 0));generalize hc:t.2+(u.getD (i+j) 0+v.getD i 0)=C at *;rw[<- hc,gB,gB,hc] at e;omega
def yS (v:List Nat) (n j g:Nat) (u:List Nat):List Nat×Nat:=
 let t:=jk v g j n u
 let y:=t.2.2+t.2.1
 if t.1.getD (j+n) 0 < y then
  let w:=kn v j n (t.1.set (j+n) (t.1.getD (j+n) 0+4294967296 - y))
  (w.1.set (j+n) ((w.1.getD (j+n) 0+w.2) % 4294967296),g - 1)
 else (t.1.set (j+n) (t.1.getD (j+n) 0 - y),g)
theorem wk {q r U V:Nat} (h:U=q * V+r) (hr:r < V):U / V=q/\U % V=r:=by
 subst h
 constructor
 ·rw[cM,Nat.mul_add_div (by omega),Aj hr];rfl
 ·rw[cM,Nat.mul_add_mod,lE hr]
theorem qmL {v u:List Nat} {n j g:Nat} (hv:Dg v) (hu:Dg u) (hn:v.length=n) (hL:j+n < u.length) (hg:g < 4294967296) (Dy:0 < val v)
  (h1:wn u j (n+1) / val v<=g) (h2:g * val v < wn u j (n+1)+val v) :
  Dg (yS v n j g u).1/\(yS v n j g u).1.length=u.length/\(∀ k,k < j\/j+n < k->(yS v n j g u).1.getD k 0=u.getD k 0) /\
  wn (yS v n j g u).1 j (n+1)=wn u j (n+1) % val v/\(yS v n j g u).2=wn u j (n+1) / val v:=by
 have hV:vs v n=val v:=jn (by omega);have hVP:val v < 4294967296 ^ n:=by rw[<- hn];exact mS hv
 have hw:=Og (v:=v) (g:=g) hu j n (by omega);have hk:∀ k,k < j\/j+n<=k->(jk v g j n u).1.getD k 0=u.getD k 0:=fun k h=>Of v g j u k n (by omega);have hl:=Ej v g j u n;have hb:=Ei v g j u n;have hc:=IC hv hg j u n;have hd:=ID (v:=v) (g:=g) hu j n;have yt:=zx hd j n;have ht:=hk (j+n) (by omega);have Bc:=hu (j+n);have hUp:=zx hu j n;have hUe:wn u j (n+1)=wn u j n+4294967296 ^ n * u.getD (j+n) 0:=rfl;rw[hUe] at h1 h2 ⊢;rw[hV] at hw;unfold yS;simp only[];generalize jk v g j n u=t at *;obtain ⟨t,b,c⟩:=t;simp only[] at *;rw[ht]
 have hU1:wn u j n+4294967296 ^ n * u.getD (j+n) 0 < (g+1) * val v:=by
  have:=Nat.lt_succ_of_le h1
  rwa [uE Dy] at this
 rw[gO,px] at hU1;generalize u.getD (j+n) 0=top at *
 by_cases h:top < c+b
 ·rw[an h];simp only[];have DF:Dg (t.set (j+n) (top+4294967296 - (c+b))):=hd.set _ _ (by omega);have ha:=S4 v j (t.set (j+n) (top+4294967296 - (c+b))) n (by rw[a8];omega);have US:∀ k,k < j\/j+n<=k->(kn v j n (t.set (j+n) (top+4294967296 - (c+b)))).1.getD k 0=(t.set (j+n) (top+4294967296 - (c+b))).getD k 0:=fun k h=>LA v j _ k n (by omega);obtain ⟨had,hac⟩:=Hj hv DF j n;have cH:=C3 v j (t.set (j+n) (top+4294967296 - (c+b))) n;rw[uk (by omega),hV] at ha;have mM:=US (j+n) (by omega);rw[rm (by omega)] at mM;have Ik:=zx had j n
  have tR:∀ k,k < j\/j+n < k->(kn v j n (t.set (j+n) (top+4294967296 - (c+b)))).1.getD k 0=u.getD k 0:=by
   intro k bO;rw[US k (by omega),uT (by omega),hk k (by omega)]
  rw[a8] at cH;generalize kn v j n (t.set (j+n) (top+4294967296 - (c+b)))=w at *;obtain ⟨w,x⟩:=w;simp only[] at *;rw[mM]
  have Ve:wn u j n+4294967296 ^ n * top < g * val v:=by
   have:4294967296 ^ n * (top+1)<=4294967296 ^ n * (c+b):=kG _ h;rw[gB] at this;omega
  have uX:1<=g:=by
   apply oP;intro e;rw[e,xN] at Ve;omega
  obtain ⟨g',hg'⟩:∃ g',g=g'+1:=⟨g - 1,by omega⟩;subst hg';rw[gO,px] at Ve h2 hw;obtain ⟨r,hr⟩:∃ r,wn u j n+4294967296 ^ n * top=g' * val v+r:=⟨_,(Nat.add_sub_cancel' (by omega)).symm⟩;obtain ⟨hq,hm⟩:=wk hr (by omega)
  have key:wn w j n+4294967296 ^ n * x=r+4294967296 ^ n * (c+b - top):=by
   have:=IT (4294967296 ^ n) (c+b) top (by omega);omega
  have hx:x=c+b - top/\wn w j n=r:=by
   have h3:=wk (q:=x) (r:=wn w j n) (V:=4294967296 ^ n) (by rw[cM x,rZ]) Ik;have h4:=wk (q:=c+b - top) (r:=r) (U:=wn w j n+4294967296 ^ n * x) (V:=4294967296 ^ n) (by rw[key,cM (c+b - top),rZ]) (by omega);exact ⟨h3.1.symm.trans h4.1,h3.2.symm.trans h4.2⟩
  refine ⟨had.set _ _ (jY _ (by omega)),by rw[a8,cH,hl],?_,?_,by rw[hq];rfl⟩
  ·intro k bO;rw[uT (by omega)];exact tR k bO
  ·rw[wn,uk (by omega),rm (by omega),hx.2,hm,hx.1];rw[show (top+4294967296 - (c+b)+(c+b - top)) % 4294967296=0 by omega]
   rfl
 ·rw[ai h];simp only[];have e:=IT (4294967296 ^ n) top (c+b) (by omega);have hr:wn u j n+4294967296 ^ n * top=g * val v+(wn t j n+4294967296 ^ n * (top - (c+b))):=by omega
  obtain ⟨hq,hm⟩:=wk hr (by omega)
  refine ⟨hd.set _ _ (by omega),by rw[a8,hl],?_,?_,by rw[hq]⟩
  ·intro k bO;rw[uT (by omega)];exact hk k (by omega)
  ·rw[wn,uk (by omega),rm (by omega),hm]
structure KInv (v u0:List Nat) (n m j:Nat) (u q:List Nat):Prop where
 du:Dg u
 lu:u.length=m+n
 dq:Dg q
 lq:q.length=m
 hi:∀ k,j+n<=k->u.getD k 0=0
 lo:∀ k,k < j->u.getD k 0=u0.getD k 0
 lt:wn u j n < val v
 eq:wn q j (m - j) * val v+wn u j n=wn u0 j (m+n - j)
theorem KInv.step {v u0 u q:List Nat} {n m j:Nat} (hv:Dg v) (hn:v.length=n) (hj:j < m) (h:KInv v u0 n m (j+1) u q) {u':List Nat} {d:Nat}
  (du:Dg u') (lu:u'.length=u.length) (hk:∀ k,k < j\/j+n < k->u'.getD k 0=u.getD k 0)
  (hw:wn u' j (n+1)=wn u j (n+1) % val v) (hd:d=wn u j (n+1) / val v) (Dy:0 < val v):KInv v u0 n m j u' (q.set j d):=by
 have hU:wn u j (n+1)=u.getD j 0+4294967296 * wn u (j+1) n:=EW u j n;have hlt:wn u j (n+1) % val v < val v:=jY _ Dy;have hVP:val v < 4294967296 ^ n:=by rw[<- hn];exact mS hv
 have mM:u'.getD (j+n) 0=0:=by
  rw[wn] at hw;apply qj;intro hne;have:4294967296 ^ n * 1<=4294967296 ^ n * u'.getD (j+n) 0:=kG _ (by omega);omega
 have Ik:wn u' j n=wn u j (n+1) % val v:=by
  rw[wn,mM,n8,jF] at hw;exact hw
 have yu:d < 4294967296:=by
  rw[hd,uE Dy,hU];have h1:=h.lt;have h2:=h.du j;omega
 refine ⟨du,by rw[lu,h.lu],h.dq.set _ _ yu,by rw[a8,h.lq],?_,?_,by rw[Ik];exact hlt,?_⟩
 ·intro k bO
  by_cases e:k=j+n
  ·rw[e,mM]
  ·rw[hk k (by omega)];exact h.hi k (by omega)
 ·intro k bO;rw[hk k (by omega)];exact h.lo k (by omega)
 ·have e:=h.eq;obtain ⟨r,hr⟩:∃ r,m - j=r+1:=⟨m - j - 1,by omega⟩;rw[hr,EW,rm (by rw[h.lq];exact hj),uk (by omega),Ik];rw[show m+n - j=(m+n - (j+1))+1 by omega,EW u0,<- h.lo j (by omega),<- e,show m - (j+1)=r by omega];have h2:wn u j (n+1)=val v * d+wn u j (n+1) % val v:=by rw[hd,uD]
  rw[gO,gB,cM d,dZ];omega
def lD (u:List Nat) (s:Nat):Nat->List Nat
 | 0=>[]
 | i+1=>lD u s i++[u.getD i 0 / 2 ^ s+u.getD (i+1) 0 * 2 ^ (32 - s) % 4294967296]
theorem EM (u:List Nat) (s:Nat):∀ i,(lD u s i).length=i
 | 0=>rfl
 | i+1=>by simp[lD,EM u s i]
theorem Ps {x s:Nat} (hs:s < 32):x * 2 ^ (32 - s) % 4294967296=x % 2 ^ s * 2 ^ (32 - s):=by
 rw[<- zd hs,Nat.mul_mod_mul_right]
theorem Zv {x s:Nat} (hs:s < 32) (hx:x < 4294967296):x / 2 ^ s < 2 ^ (32 - s):=by
 rw[uE (uG s),cM,zd hs];exact hx
theorem Zu {x y s:Nat} (hs:s < 32) (hx:x < 4294967296):x / 2 ^ s+y * 2 ^ (32 - s) % 4294967296 < 4294967296:=by
 have h1:=Zv hs hx;have h2:y % 2 ^ s < 2 ^ s:=jY _ (uG s);have h3:(y % 2 ^ s+1) * 2 ^ (32 - s)<=2 ^ s * 2 ^ (32 - s):=iM _ h2;rw[zd hs,gO] at h3;rw[Ps hs];omega
theorem Jv {u:List Nat} {s:Nat} (hu:Dg u) (hs:s < 32):∀ i,Dg (lD u s i)
 | 0=>yd
 | i+1=>yc (Jv hu hs i) (uQ (Zu hs (hu i)))
theorem Zt {u:List Nat} {s:Nat} (hs:s < 32):∀ i,2 ^ s * val (lD u s i)+u.getD 0 0 % 2 ^ s=wn u 0 i+4294967296 ^ i * (u.getD i 0 % 2 ^ s)
 | 0=>by simp[lD,val,wn]
 | i+1=>by
  have ih:=Zt (u:=u) hs i;rw[lD,xh,EM,val,val,n8,jF,Ps hs,gB,wn,bp,jR];have e1:4294967296 ^ i * u.getD i 0=4294967296 ^ i * (2 ^ s * (u.getD i 0 / 2 ^ s)+u.getD i 0 % 2 ^ s):=by rw[uD]
  have e2:2 ^ s * (4294967296 ^ i * (u.getD i 0 / 2 ^ s+u.getD (i+1) 0 % 2 ^ s * 2 ^ (32 - s)))=4294967296 ^ i * (2 ^ s * (u.getD i 0 / 2 ^ s))+4294967296 ^ i * 4294967296 * (u.getD (i+1) 0 % 2 ^ s):=by
   rw[<- zd hs];generalize (2 ^ s * 2 ^ (32 - s)) ^ i=p;generalize u.getD (i+1) 0 % 2 ^ s=y;generalize u.getD i 0 / 2 ^ s=z;generalize 2 ^ (32 - s)=b;generalize 2 ^ s=a;simp only[gB]
   congr 1
   ·simp only[Nat.mul_left_comm,cM]
   ·simp only[Nat.mul_left_comm,cM]
  rw[e2,e1,gB];omega
theorem KInv.done {v u0 u q a b:List Nat} {n m s:Nat} (hs:s < 32) (hu:u0.length=m+n) (h0:val u0=2 ^ s * val a) (hv:val v=2 ^ s * val b) (h:KInv v u0 n m 0 u q) :
  tr q=aC (val a / val b)/\tr (lD u s n)=aC (val a % val b):=by
 have hp:=uG s;have e:=h.eq;have hlt:=h.lt;rw[Nat.sub_zero,Nat.sub_zero,EX u0,jn (by omega),EX q,jn (by rw[h.lq];omega),h0] at e
 have hd:2 ^ s * val a / (2 ^ s * val b)=val q/\2 ^ s * val a % (2 ^ s * val b)=wn u 0 n:=by
  rw[<- hv];exact wk e.symm hlt
 rw[Nat.mul_div_mul_left _ _ hp] at hd;rw[Nat.mul_mod_mul_left] at hd;rw[lC h.dq,lC (Jv h.du hs n),hd.1];refine ⟨rfl,?_⟩;have hr:=Zt (u:=u) hs n;have mM:=h.hi n (by omega);rw[mM,Nat.zero_mod,n8,jF,<- hd.2] at hr;have hm:u.getD 0 0 % 2 ^ s < 2 ^ s:=jY _ hp;have:=(wk (q:=val a % val b) (r:=0) (U:=2 ^ s * (val a % val b)) (V:=2 ^ s) (by rw[cM];rfl) hp).1;have h3:=(wk (q:=val (lD u s n)) (r:=u.getD 0 0 % 2 ^ s) (U:=2 ^ s * (val a % val b)) (V:=2 ^ s) (by rw[<- hr,cM]) hm).1;rw[<- this,h3]
end Go.Ab
