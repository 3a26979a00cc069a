/- What the interpreter does, function by function. -/
import Derived.Test.YtlapgjmmlbnehaaLP1
set_option maxRecDepth 100000
set_option linter.unusedVariables false
set_option linter.unusedSimpArgs false
set_option linter.unusedSectionVars false
namespace Go.Ab
open Go.Proofs.Try
def Qb(x3:AV)(m:ae):St:=⟨[.any,.any,.any,x3,.any,.any,.any,.any,.any,.any,.any,.any,.any,.any,.any,.any,.any,.any,.any,.any,.any,.any,.any,.any,.any,.any,.any,.any,.any,.any,.any,.any],m⟩
noncomputable def BR(x1 x3 x9 aT:AV)(m:ae)(K:KT):OM:=bP (aq ab 85 (AP ab) (AC ab) (c1 (c1 (c2 (c1 (c2 (c2 (al f85)))))))) (ab.mask 85 (some 3)) ⟨[.any,x1,.any,x3,.any,.any,.any,.any,.any,x9,aT,.any,.any,.any,.any,.any,.any,.any,.any,.any,.any,.any,.any,.any,.any,.any,.any,.any,.any,.any,.any,.any],m⟩ K
noncomputable abbrev qac(K:KT):KT:=dQ (fun st=>aq ab 85 (AP ab) (AC ab) (c2 (c2 (c2 (al f85)))) st K) K
noncomputable abbrev qad(K:KT):KT:=dK 0 (qac K)
noncomputable abbrev EH(K:KT):KT:=(qad K)
theorem QA(a0:AV)(m:ae):AC ab 85 [a0] m =
 (ef none (some 3) m a0).bind fun r1=>
 (aB 0 r1.1).bind fun v2=>
 (ai none r1.2 v2).bind fun v3=>
 (jM none 22 none (.lst none true .full []) 24 r1.2 v3 v3).bind fun r4=>
 (aY false r4.1).bind fun v5=>
 BR r1.1 r4.1 v5 (.int .i64 0) r4.2 (EH (aN ab.P f85.results.toList)):=
(bW ab 85 [a0] m (fn:=f85) (c:=al f85) qeG rfl).trans (by kernel_rfl)
theorem E9(x1 x3 x9 aT:AV)(m:ae)(K:KT):BR x1 x3 x9 aT m K =
 (af .other .lss aT x9).bind fun v1=>
 au v1 (
 (iq (some 3) []).bind fun v2=>
 (aB 2 x1).bind fun v3=>
 (ai none m v3).bind fun v4=>
 (aB 1 x1).bind fun v5=>
 (ai none m v5).bind fun v6=>
 (af .other .mul aT v6).bind fun v7=>
 (af .other .add aT (.int .i64 1)).bind fun v8=>
 (aB 1 x1).bind fun v9=>
 (ai none m v9).bind fun v10=>
 (af .other .mul v8 v10).bind fun v11=>
 (nS (some 3) v4 (some v7) (some v11) none).bind fun aV=>
 (eG none true 43 (some 3) 56 m v2 aV).bind fun iT=>
 (aJ none x3 aT).bind fun bM=>
 (aA none iT.2 bM iT.1).bind fun m15=>
 (af .other .add aT (.int .i64 1)).bind fun bQ=>
 BR x1 x3 x9 bQ m15 K) (
 K (.exit 0) (Qb x3 m)):=
(eu (ed _) _ _ _).trans (by kernel_rfl)
theorem O9(x3:AV)(m:ae):EH (aN ab.P f85.results.toList) (.exit 0) (Qb x3 m) =
 some (x3,m):=by kernel_rfl
def Qc(x5 x6 x7:AV)(m:ae):St:=⟨[.any,.any,.any,.any,.any,x5,x6,x7,.any,.any,.any,.any,.any,.any,.any,.any,.any,.any,.any,.any,.any,.any,.any,.any,.any,.any,.any,.any,.any,.any,.any,.any,.any,.any,.any,.any,.any,.any,.any,.any,.any,.any,.any,.any,.any,.any,.any,.any,.any,.any,.any,.any,.any,.any,.any,.any,.any,.any,.any,.any,.any,.any,.any,.any,.any,.any,.any,.any,.any,.any,.any,.any,.any,.any,.any,.any,.any,.any,.any,.any,.any,.any,.any,.any,.any,.any,.any,.any,.any,.any,.any,.any,.any,.any,.any,.any,.any,.any,.any,.any,.any,.any,.any,.any,.any,.any,.any,.any,.any,.any,.any,.any,.any,.any,.any,.any,.any,.any,.any,.any,.any,.any,.any,.any,.any,.any,.any,.any,.any,.any,.any,.any,.any,.any,.any,.any,.any,.any,.any,.any,.any,.any,.any,.any,.any,.any,.any,.any,.any,.any,.any,.any,.any,.any,.any,.any,.any,.any,.any,.any,.any,.any,.any,.any,.any,.any,.any,.any,.any,.any,.any,.any,.any],m⟩
noncomputable def zG(x0 x1 x5 x6 x7 x8 x9:AV)(m:ae)(K:KT):OM:=bP (aq ab 91 (AP ab) (AC ab) (c1 (c1 (c2 (c1 (c2 (c2 (c2 (c2 (al f91)))))))))) (ab.mask 91 (some 5)) ⟨[x0,x1,.any,.any,.any,x5,x6,x7,x8,x9,.any,.any,.any,.any,.any,.any,.any,.any,.any,.any,.any,.any,.any,.any,.any,.any,.any,.any,.any,.any,.any,.any,.any,.any,.any,.any,.any,.any,.any,.any,.any,.any,.any,.any,.any,.any,.any,.any,.any,.any,.any,.any,.any,.any,.any,.any,.any,.any,.any,.any,.any,.any,.any,.any,.any,.any,.any,.any,.any,.any,.any,.any,.any,.any,.any,.any,.any,.any,.any,.any,.any,.any,.any,.any,.any,.any,.any,.any,.any,.any,.any,.any,.any,.any,.any,.any,.any,.any,.any,.any,.any,.any,.any,.any,.any,.any,.any,.any,.any,.any,.any,.any,.any,.any,.any,.any,.any,.any,.any,.any,.any,.any,.any,.any,.any,.any,.any,.any,.any,.any,.any,.any,.any,.any,.any,.any,.any,.any,.any,.any,.any,.any,.any,.any,.any,.any,.any,.any,.any,.any,.any,.any,.any,.any,.any,.any,.any,.any,.any,.any,.any,.any,.any,.any,.any,.any,.any,.any,.any,.any,.any,.any,.any],m⟩ K
def Fu(x0 x1 x5 x6 x7 x8 x9 aT:AV)(m:ae):St:=⟨[x0,x1,.any,.any,.any,x5,x6,x7,x8,x9,aT,.any,.any,.any,.any,.any,.any,.any,.any,.any,.any,.any,.any,.any,.any,.any,.any,.any,.any,.any,.any,.any,.any,.any,.any,.any,.any,.any,.any,.any,.any,.any,.any,.any,.any,.any,.any,.any,.any,.any,.any,.any,.any,.any,.any,.any,.any,.any,.any,.any,.any,.any,.any,.any,.any,.any,.any,.any,.any,.any,.any,.any,.any,.any,.any,.any,.any,.any,.any,.any,.any,.any,.any,.any,.any,.any,.any,.any,.any,.any,.any,.any,.any,.any,.any,.any,.any,.any,.any,.any,.any,.any,.any,.any,.any,.any,.any,.any,.any,.any,.any,.any,.any,.any,.any,.any,.any,.any,.any,.any,.any,.any,.any,.any,.any,.any,.any,.any,.any,.any,.any,.any,.any,.any,.any,.any,.any,.any,.any,.any,.any,.any,.any,.any,.any,.any,.any,.any,.any,.any,.any,.any,.any,.any,.any,.any,.any,.any,.any,.any,.any,.any,.any,.any,.any,.any,.any,.any,.any,.any,.any,.any,.any],m⟩
noncomputable def Fb(x0 x1 x5 x6 x7 x8 x9 aT:AV)(m:ae)(K:KT):OM:=bP (aq ab 91 (AP ab) (AC ab) (c1 (c1 (c1 (c2 (c2 (c1 (c1 (c2 (c1 (c1 (c2 (c1 (c2 (c2 (c2 (c2 (al f91)))))))))))))))))) (ab.mask 91 (some 9)) ⟨[x0,x1,.any,.any,.any,x5,x6,x7,x8,x9,aT,.any,.any,.any,.any,.any,.any,.any,.any,.any,.any,.any,.any,.any,.any,.any,.any,.any,.any,.any,.any,.any,.any,.any,.any,.any,.any,.any,.any,.any,.any,.any,.any,.any,.any,.any,.any,.any,.any,.any,.any,.any,.any,.any,.any,.any,.any,.any,.any,.any,.any,.any,.any,.any,.any,.any,.any,.any,.any,.any,.any,.any,.any,.any,.any,.any,.any,.any,.any,.any,.any,.any,.any,.any,.any,.any,.any,.any,.any,.any,.any,.any,.any,.any,.any,.any,.any,.any,.any,.any,.any,.any,.any,.any,.any,.any,.any,.any,.any,.any,.any,.any,.any,.any,.any,.any,.any,.any,.any,.any,.any,.any,.any,.any,.any,.any,.any,.any,.any,.any,.any,.any,.any,.any,.any,.any,.any,.any,.any,.any,.any,.any,.any,.any,.any,.any,.any,.any,.any,.any,.any,.any,.any,.any,.any,.any,.any,.any,.any,.any,.any,.any,.any,.any,.any,.any,.any,.any,.any,.any,.any,.any,.any],m⟩ K
def J3(x0 x1 x5 x6 x7 x8 x9:AV)(m:ae):St:=⟨[x0,x1,.any,.any,.any,x5,x6,x7,x8,x9,.any,.any,.any,.any,.any,.any,.any,.any,.any,.any,.any,.any,.any,.any,.any,.any,.any,.any,.any,.any,.any,.any,.any,.any,.any,.any,.any,.any,.any,.any,.any,.any,.any,.any,.any,.any,.any,.any,.any,.any,.any,.any,.any,.any,.any,.any,.any,.any,.any,.any,.any,.any,.any,.any,.any,.any,.any,.any,.any,.any,.any,.any,.any,.any,.any,.any,.any,.any,.any,.any,.any,.any,.any,.any,.any,.any,.any,.any,.any,.any,.any,.any,.any,.any,.any,.any,.any,.any,.any,.any,.any,.any,.any,.any,.any,.any,.any,.any,.any,.any,.any,.any,.any,.any,.any,.any,.any,.any,.any,.any,.any,.any,.any,.any,.any,.any,.any,.any,.any,.any,.any,.any,.any,.any,.any,.any,.any,.any,.any,.any,.any,.any,.any,.any,.any,.any,.any,.any,.any,.any,.any,.any,.any,.any,.any,.any,.any,.any,.any,.any,.any,.any,.any,.any,.any,.any,.any,.any,.any,.any,.any,.any,.any],m⟩
noncomputable def zE(x0 x1 x5 x6 x7 x8 x9 cn Ej zo:AV)(m:ae)(K:KT):OM:=bP (aq ab 91 (AP ab) (AC ab) (c1 (c1 (c2 (c1 (c2 (c2 (c2 (c2 (c2 (c2 (c2 (c1 (c1 (c2 (c1 (c1 (c2 (c1 (c2 (c2 (c2 (c2 (al f91)))))))))))))))))))))))) (ab.mask 91 (some 19)) ⟨[x0,x1,.any,.any,.any,x5,x6,x7,x8,x9,.any,cn,.any,.any,.any,.any,.any,.any,.any,.any,.any,.any,.any,.any,.any,.any,.any,.any,.any,.any,.any,.any,.any,.any,.any,.any,.any,.any,.any,.any,.any,.any,.any,.any,.any,.any,.any,.any,.any,.any,.any,.any,.any,.any,.any,.any,.any,.any,.any,.any,.any,.any,.any,.any,.any,.any,.any,.any,.any,.any,.any,.any,.any,.any,.any,.any,.any,.any,.any,.any,.any,.any,.any,Ej,zo,.any,.any,.any,.any,.any,.any,.any,.any,.any,.any,.any,.any,.any,.any,.any,.any,.any,.any,.any,.any,.any,.any,.any,.any,.any,.any,.any,.any,.any,.any,.any,.any,.any,.any,.any,.any,.any,.any,.any,.any,.any,.any,.any,.any,.any,.any,.any,.any,.any,.any,.any,.any,.any,.any,.any,.any,.any,.any,.any,.any,.any,.any,.any,.any,.any,.any,.any,.any,.any,.any,.any,.any,.any,.any,.any,.any,.any,.any,.any,.any,.any,.any,.any,.any,.any,.any,.any,.any],m⟩ K
def J4(x0 x1 x5 x6 x7 x8 x9:AV)(m:ae):St:=⟨[x0,x1,.any,.any,.any,x5,x6,x7,x8,x9,.any,.any,.any,.any,.any,.any,.any,.any,.any,.any,.any,.any,.any,.any,.any,.any,.any,.any,.any,.any,.any,.any,.any,.any,.any,.any,.any,.any,.any,.any,.any,.any,.any,.any,.any,.any,.any,.any,.any,.any,.any,.any,.any,.any,.any,.any,.any,.any,.any,.any,.any,.any,.any,.any,.any,.any,.any,.any,.any,.any,.any,.any,.any,.any,.any,.any,.any,.any,.any,.any,.any,.any,.any,.any,.any,.any,.any,.any,.any,.any,.any,.any,.any,.any,.any,.any,.any,.any,.any,.any,.any,.any,.any,.any,.any,.any,.any,.any,.any,.any,.any,.any,.any,.any,.any,.any,.any,.any,.any,.any,.any,.any,.any,.any,.any,.any,.any,.any,.any,.any,.any,.any,.any,.any,.any,.any,.any,.any,.any,.any,.any,.any,.any,.any,.any,.any,.any,.any,.any,.any,.any,.any,.any,.any,.any,.any,.any,.any,.any,.any,.any,.any,.any,.any,.any,.any,.any,.any,.any,.any,.any,.any,.any],m⟩
noncomputable def zF(x0 x1 x5 x6 x7 x8 x9 nV lC:AV)(m:ae)(K:KT):OM:=bP (aq ab 91 (AP ab) (AC ab) (c1 (c1 (c2 (c1 (c2 (c2 (c2 (c2 (c2 (c2 (c2 (c2 (c1 (c1 (c2 (c1 (c1 (c2 (c1 (c2 (c2 (c2 (c2 (al f91))))))))))))))))))))))))) (ab.mask 91 (some 24)) ⟨[x0,x1,.any,.any,.any,x5,x6,x7,x8,x9,.any,.any,.any,.any,.any,.any,.any,.any,.any,.any,.any,.any,.any,.any,.any,.any,.any,.any,.any,.any,.any,.any,.any,.any,.any,.any,.any,.any,.any,.any,.any,.any,.any,.any,.any,.any,.any,.any,.any,.any,.any,.any,.any,.any,.any,.any,.any,.any,.any,.any,.any,.any,.any,.any,.any,.any,.any,.any,.any,.any,.any,.any,.any,.any,.any,.any,.any,.any,.any,.any,.any,.any,.any,.any,.any,.any,.any,.any,.any,.any,.any,.any,.any,.any,.any,.any,.any,.any,.any,.any,.any,.any,.any,.any,.any,.any,.any,nV,lC,.any,.any,.any,.any,.any,.any,.any,.any,.any,.any,.any,.any,.any,.any,.any,.any,.any,.any,.any,.any,.any,.any,.any,.any,.any,.any,.any,.any,.any,.any,.any,.any,.any,.any,.any,.any,.any,.any,.any,.any,.any,.any,.any,.any,.any,.any,.any,.any,.any,.any,.any,.any,.any,.any,.any,.any,.any,.any,.any,.any,.any,.any,.any,.any],m⟩ K
def J5(x0 x1 x5 x6 x7 x8 x9 nV lC:AV)(m:ae):St:=⟨[x0,x1,.any,.any,.any,x5,x6,x7,x8,x9,.any,.any,.any,.any,.any,.any,.any,.any,.any,.any,.any,.any,.any,.any,.any,.any,.any,.any,.any,.any,.any,.any,.any,.any,.any,.any,.any,.any,.any,.any,.any,.any,.any,.any,.any,.any,.any,.any,.any,.any,.any,.any,.any,.any,.any,.any,.any,.any,.any,.any,.any,.any,.any,.any,.any,.any,.any,.any,.any,.any,.any,.any,.any,.any,.any,.any,.any,.any,.any,.any,.any,.any,.any,.any,.any,.any,.any,.any,.any,.any,.any,.any,.any,.any,.any,.any,.any,.any,.any,.any,.any,.any,.any,.any,.any,.any,.any,nV,lC,.any,.any,.any,.any,.any,.any,.any,.any,.any,.any,.any,.any,.any,.any,.any,.any,.any,.any,.any,.any,.any,.any,.any,.any,.any,.any,.any,.any,.any,.any,.any,.any,.any,.any,.any,.any,.any,.any,.any,.any,.any,.any,.any,.any,.any,.any,.any,.any,.any,.any,.any,.any,.any,.any,.any,.any,.any,.any,.any,.any,.any,.any,.any,.any],m⟩
noncomputable def Fa(x0 x1 x5 x6 x7 x8 x9 bo bG nV lC Ed xh:AV)(m:ae)(K:KT):OM:=bP (aq ab 91 (AP ab) (AC ab) (c1 (c1 (c2 (c2 (c2 (c2 (c1 (c1 (c2 (c2 (c1 (c1 (c2 (c1 (c2 (c2 (c2 (c2 (c2 (c2 (c2 (c2 (c1 (c1 (c2 (c1 (c1 (c2 (c1 (c2 (c2 (c2 (c2 (al f91))))))))))))))))))))))))))))))))))) (ab.mask 91 (some 29)) ⟨[x0,x1,.any,.any,.any,x5,x6,x7,x8,x9,.any,.any,.any,bo,bG,.any,.any,.any,.any,.any,.any,.any,.any,.any,.any,.any,.any,.any,.any,.any,.any,.any,.any,.any,.any,.any,.any,.any,.any,.any,.any,.any,.any,.any,.any,.any,.any,.any,.any,.any,.any,.any,.any,.any,.any,.any,.any,.any,.any,.any,.any,.any,.any,.any,.any,.any,.any,.any,.any,.any,.any,.any,.any,.any,.any,.any,.any,.any,.any,.any,.any,.any,.any,.any,.any,.any,.any,.any,.any,.any,.any,.any,.any,.any,.any,.any,.any,.any,.any,.any,.any,.any,.any,.any,.any,.any,.any,nV,lC,.any,.any,.any,.any,.any,.any,.any,.any,.any,.any,.any,.any,.any,.any,.any,.any,.any,.any,.any,.any,.any,.any,.any,.any,.any,.any,.any,Ed,xh,.any,.any,.any,.any,.any,.any,.any,.any,.any,.any,.any,.any,.any,.any,.any,.any,.any,.any,.any,.any,.any,.any,.any,.any,.any,.any,.any,.any,.any,.any,.any,.any,.any,.any,.any],m⟩ K
noncomputable abbrev qaw(K:KT):KT:=dQ (fun st=>aq ab 91 (AP ab) (AC ab) (c2 (c2 (c2 (c2 (c2 (al f91)))))) st K) K
noncomputable abbrev qax(K:KT):KT:=dK 0 (qaw K)
noncomputable abbrev zu(K:KT):KT:=(qax K)
noncomputable abbrev qay(K:KT):KT:=dQ (fun st=>aq ab 91 (AP ab) (AC ab) (c2 (c2 (c1 (c1 (c2 (c1 (c2 (c2 (c2 (c2 (al f91))))))))))) st (fz (fun st=>bP (aq ab 91 (AP ab) (AC ab) (c1 (c1 (c2 (c1 (c2 (c2 (c2 (c2 (al f91)))))))))) (ab.mask 91 (some 5)) st K) (ab.mask 91 (some 5)) K)) (fz (fun st=>bP (aq ab 91 (AP ab) (AC ab) (c1 (c1 (c2 (c1 (c2 (c2 (c2 (c2 (al f91)))))))))) (ab.mask 91 (some 5)) st K) (ab.mask 91 (some 5)) K)
noncomputable abbrev Pe(K:KT):KT:=dK 1 (qay K)
noncomputable abbrev qaz(K:KT):KT:=dQ (fun st=>aq ab 91 (AP ab) (AC ab) (c2 (c2 (c2 (c1 (c1 (c2 (c1 (c1 (c2 (c1 (c2 (c2 (c2 (c2 (al f91))))))))))))))) st (Pe K)) (Pe K)
noncomputable abbrev qaA(K:KT):KT:=dK 2 (qaz K)
noncomputable abbrev Jl(K:KT):KT:=(qaA K)
noncomputable abbrev qas(K:KT):KT:=dQ (fun st=>aq ab 91 (AP ab) (AC ab) (c2 (c2 (c2 (c1 (c1 (c2 (c1 (c2 (c2 (c2 (c2 (c2 (c2 (c2 (c2 (c1 (c1 (c2 (c1 (c1 (c2 (c1 (c2 (c2 (c2 (c2 (al f91))))))))))))))))))))))))))) st (fz (fun st=>bP (aq ab 91 (AP ab) (AC ab) (c1 (c1 (c2 (c1 (c2 (c2 (c2 (c2 (c2 (c2 (c2 (c2 (c1 (c1 (c2 (c1 (c1 (c2 (c1 (c2 (c2 (c2 (c2 (al f91))))))))))))))))))))))))) (ab.mask 91 (some 24)) st K) (ab.mask 91 (some 24)) K)) (fz (fun st=>bP (aq ab 91 (AP ab) (AC ab) (c1 (c1 (c2 (c1 (c2 (c2 (c2 (c2 (c2 (c2 (c2 (c2 (c1 (c1 (c2 (c1 (c1 (c2 (c1 (c2 (c2 (c2 (c2 (al f91))))))))))))))))))))))))) (ab.mask 91 (some 24)) st K) (ab.mask 91 (some 24)) K)
noncomputable abbrev qat(K:KT):KT:=dK 7 (qas K)
noncomputable abbrev qau(K:KT):KT:=dK 8 (qat K)
noncomputable abbrev Jk(K:KT):KT:=(qau K)
noncomputable abbrev qak(K:KT):KT:=dQ (fun st=>aq ab 91 (AP ab) (AC ab) (c2 (c2 (c1 (c1 (c2 (c1 (c2 (c2 (c2 (c2 (al f91))))))))))) st (fz (fun st=>bP (aq ab 91 (AP ab) (AC ab) (c1 (c1 (c2 (c1 (c2 (c2 (c2 (c2 (al f91)))))))))) (ab.mask 91 (some 5)) st K) (ab.mask 91 (some 5)) K)) (fz (fun st=>bP (aq ab 91 (AP ab) (AC ab) (c1 (c1 (c2 (c1 (c2 (c2 (c2 (c2 (al f91)))))))))) (ab.mask 91 (some 5)) st K) (ab.mask 91 (some 5)) K)
noncomputable abbrev Pb(K:KT):KT:=dK 1 (qak K)
noncomputable abbrev qal(K:KT):KT:=dQ (fun st=>aq ab 91 (AP ab) (AC ab) (c2 (c2 (c2 (c2 (c2 (c2 (c2 (c2 (c1 (c1 (c2 (c1 (c1 (c2 (c1 (c2 (c2 (c2 (c2 (al f91)))))))))))))))))))) st (Pb K)) (Pb K)
noncomputable abbrev qam(K:KT):KT:=dK 4 (qal K)
noncomputable abbrev BE(K:KT):KT:=(qam K)
noncomputable abbrev qao(K:KT):KT:=dQ (fun st=>aq ab 91 (AP ab) (AC ab) (c2 (c2 (c1 (c1 (c2 (c1 (c2 (c2 (c2 (c2 (al f91))))))))))) st (fz (fun st=>bP (aq ab 91 (AP ab) (AC ab) (c1 (c1 (c2 (c1 (c2 (c2 (c2 (c2 (al f91)))))))))) (ab.mask 91 (some 5)) st K) (ab.mask 91 (some 5)) K)) (fz (fun st=>bP (aq ab 91 (AP ab) (AC ab) (c1 (c1 (c2 (c1 (c2 (c2 (c2 (c2 (al f91)))))))))) (ab.mask 91 (some 5)) st K) (ab.mask 91 (some 5)) K)
noncomputable abbrev Pc(K:KT):KT:=dK 1 (qao K)
noncomputable abbrev qap(K:KT):KT:=dQ (fun st=>aq ab 91 (AP ab) (AC ab) (c2 (c2 (c2 (c2 (c2 (c2 (c2 (c2 (c2 (c1 (c1 (c2 (c1 (c1 (c2 (c1 (c2 (c2 (c2 (c2 (al f91))))))))))))))))))))) st (Pc K)) (Pc K)
noncomputable abbrev qaq(K:KT):KT:=dK 6 (qap K)
noncomputable abbrev BF(K:KT):KT:=(qaq K)
theorem QC(a0 a1:AV)(m:ae):AC ab 91 [a0,a1] m =
 (ao (AP ab) none (ak none m (.obj true [(.bool false),(.lst none true .full []),(.lst none true .full [])])).2 28 []).bind fun r1=>
 (aA (some 3) (ak none r1.2 (.obj true [(.bool false),(.lst none true .full []),(.lst none true .full [])])).2 (.ptr (ak none r1.2 .resv).1 0) r1.1).bind fun m2=>
 (jM none 3 none (.int .i64 0) 8 m2 a1 a1).bind fun r3=>
 zG a0 a1 (.ptr (ak none m .resv).1 0) (.ptr (ak none r1.2 .resv).1 0) r3.1 (.int .i64 0) (.int .i64 0) r3.2 (zu (aN ab.P f91.results.toList)):=
(bW ab 91 [a0,a1] m (fn:=f91) (c:=al f91) qeK rfl).trans (by kernel_rfl)
theorem Jt(x0 x1 x5 x6 x7 x8 x9:AV)(m:ae)(K:KT):zG x0 x1 x5 x6 x7 x8 x9 m K =
 (af .other .lss x9 x1).bind fun v1=>
 au v1 (
 (aJ none x7 x9).bind fun v2=>
 (aA none m v2 (.int .i64 (-1))).bind fun m3=>
 Fb x0 x1 x5 x6 x7 x8 x9 x8 m3 (Jl K)) (
 K (.exit 0) (Qc x5 x6 x7 m)):=
(eu (ed _) _ _ _).trans (by kernel_rfl)
theorem P7(x0 x1 x5 x6 x7 x8 x9 aT:AV)(m:ae)(K:KT):Fb x0 x1 x5 x6 x7 x8 x9 aT m K =
 (aY false x0).bind fun v1=>
 (af .other .lss aT v1).bind fun v2=>
 au v2 (
 (aJ none x0 aT).bind fun v3=>
 (ai none m v3).bind fun v4=>
 (aJ (some 3) v4 x9).bind fun v5=>
 (ai (some 3) m v5).bind fun v6=>
 (ao (AP ab) none m 86 [v6]).bind fun r7=>
 (af .other .eql r7.1 (.int .i64 0)).bind fun v8=>
 au v8 (
 (af .other .add aT (.int .i64 1)).bind fun v9=>
 Fb x0 x1 x5 x6 x7 x8 x9 v9 r7.2 K) (
 K (.exit 2) (Fu x0 x1 x5 x6 x7 x8 x9 aT r7.2))) (
 K (.exit 2) (Fu x0 x1 x5 x6 x7 x8 x9 aT m)):=
(eu (ed _) _ _ _).trans (by kernel_rfl)
theorem P4(x0 x1 x5 x6 x7 x8 x9 cn Ej zo:AV)(m:ae)(K:KT):zE x0 x1 x5 x6 x7 x8 x9 cn Ej zo m K =
 (af .other .lss zo Ej).bind fun v1=>
 au v1 (
 (aJ none x0 x8).bind fun v2=>
 (ai none m v2).bind fun v3=>
 (aJ none x0 x8).bind fun v4=>
 (ai none m v4).bind fun v5=>
 (aJ (some 3) v5 zo).bind fun v6=>
 (ai (some 3) m v6).bind fun v7=>
 (ai (some 3) m cn).bind fun v8=>
 (ao (AP ab) (some m.length) m 119 [v7,v8]).bind fun r9=>
 (bg r9.1 0).bind fun v10=>
 (bg r9.1 1).bind fun v11=>
 (aJ (some 3) v3 zo).bind fun aV=>
 (aA (some 3) r9.2 aV v10).bind fun m13=>
 (af .other .add zo (.int .i64 1)).bind fun bM=>
 zE x0 x1 x5 x6 x7 x8 x9 cn Ej bM m13 K) (
 K (.exit 4) (J3 x0 x1 x5 x6 x7 x8 x9 m)):=
(eu (ed _) _ _ _).trans (by kernel_rfl)
theorem P5(x0 x1 x5 x6 x7 x8 x9 nV lC:AV)(m:ae)(K:KT):zF x0 x1 x5 x6 x7 x8 x9 nV lC m K =
 (af .other .lss lC nV).bind fun v1=>
 au v1 (
 (af .other .eql lC x8).bind fun v2=>
 au v2 (
 (af .other .add lC (.int .i64 1)).bind fun v3=>
 zF x0 x1 x5 x6 x7 x8 x9 nV v3 m K) (
 (aJ none x0 lC).bind fun v4=>
 (ai none m v4).bind fun v5=>
 (aJ (some 3) v5 x9).bind fun v6=>
 (ai (some 3) m v6).bind fun v7=>
 (ao (AP ab) none m 86 [v7]).bind fun r8=>
 (af .other .eql r8.1 (.int .i64 0)).bind fun v9=>
 au v9 (
 (af .other .add lC (.int .i64 1)).bind fun v10=>
 zF x0 x1 x5 x6 x7 x8 x9 nV v10 r8.2 K) (
 (aJ none x0 lC).bind fun v11=>
 (ai none r8.2 v11).bind fun aV=>
 (aJ (some 3) aV x9).bind fun bL=>
 (ai (some 3) r8.2 bL).bind fun bM=>
 (aA (some 3) (ak none r8.2 (.obj true [(.bool false),(.lst none true .full []),(.lst none true .full [])])).2 (.ptr (ak none r8.2 .resv).1 0) bM).bind fun m15=>
 (aJ none x0 lC).bind fun bQ=>
 (ai none m15 bQ).bind fun bV=>
 (aY false bV).bind fun dU=>
 Fa x0 x1 x5 x6 x7 x8 x9 lC (.ptr (ak none r8.2 .resv).1 0) nV lC dU (.int .i64 0) m15 (Jk K)))) (
 K (.exit 6) (J4 x0 x1 x5 x6 x7 x8 x9 m)):=
(eu (ed _) _ _ _).trans (by kernel_rfl)
theorem P6(x0 x1 x5 x6 x7 x8 x9 bo bG nV lC Ed xh:AV)(m:ae)(K:KT):Fa x0 x1 x5 x6 x7 x8 x9 bo bG nV lC Ed xh m K =
 (af .other .lss xh Ed).bind fun v1=>
 au v1 (
 (aJ none x0 bo).bind fun v2=>
 (ai none m v2).bind fun v3=>
 (aJ none x0 bo).bind fun v4=>
 (ai none m v4).bind fun v5=>
 (aJ (some 3) v5 xh).bind fun v6=>
 (ai (some 3) m v6).bind fun v7=>
 (ai (some 3) m bG).bind fun v8=>
 (aJ none x0 x8).bind fun v9=>
 (ai none m v9).bind fun v10=>
 (aJ (some 3) v10 xh).bind fun v11=>
 (ai (some 3) m v11).bind fun aV=>
 (ao (AP ab) (some m.length) m 29 [v8,aV]).bind fun iT=>
 (ao (AP ab) (some m.length) iT.2 100 [v7,iT.1]).bind fun rm=>
 (aJ (some 3) v3 xh).bind fun bz=>
 (aA (some 3) rm.2 bz rm.1).bind fun m16=>
 (af .other .add xh (.int .i64 1)).bind fun bV=>
 Fa x0 x1 x5 x6 x7 x8 x9 bo bG nV lC Ed bV m16 K) (
 K (.exit 8) (J5 x0 x1 x5 x6 x7 x8 x9 nV lC m)):=
(eu (ed _) _ _ _).trans (by kernel_rfl)
theorem Pd(x5 x6 x7:AV)(m:ae):zu (aN ab.P f91.results.toList) (.exit 0) (Qc x5 x6 x7 m) =
 (ai (some 3) m x6).bind fun v1=>
 (aA (some 3) m x5 v1).bind fun m2=>
 (ai (some 3) m2 x5).bind fun v3=>
 some ((.tup [x7,v3]),m2):=by kernel_rfl
theorem qaB(x0 x1 x5 x6 x7 x8 x9 aT:AV)(m:ae)(K:KT):Jl K (.exit 2) (Fu x0 x1 x5 x6 x7 x8 x9 aT m) =
 (aY false x0).bind fun v1=>
 (af .other .eql aT v1).bind fun v2=>
 au v2 (
 (ao (AP ab) none m 31 []).bind fun r3=>
 (aA (some 3) r3.2 x6 r3.1).bind fun m4=>
 (af .other .add x9 (.int .i64 1)).bind fun v5=>
 zG x0 x1 x5 x6 x7 x8 v5 m4 K) (
 (af .other .neq aT x8).bind fun v6=>
 au v6 (
 (aJ none x0 x8).bind fun v7=>
 (ai none m v7).bind fun v8=>
 (aJ none x0 aT).bind fun v9=>
 (ai none m v9).bind fun v10=>
 (aJ none x0 aT).bind fun v11=>
 (aA none m v11 v8).bind fun m12=>
 (aJ none x0 x8).bind fun bL=>
 (aA none m12 bL v10).bind fun m14=>
 (ai (some 3) m14 x6).bind fun bz=>
 (ao (AP ab) none m14 118 [bz]).bind fun js=>
 (aA (some 3) js.2 x6 js.1).bind fun m17=>
 (aJ none x0 x8).bind fun dU=>
 (ai none m17 dU).bind fun dL=>
 (aJ (some 3) dL x9).bind fun v20=>
 (ai (some 3) m17 v20).bind fun eg=>
 (aA (some 3) (ak none m17 (.obj true [(.bool false),(.lst none true .full []),(.lst none true .full [])])).2 (.ptr (ak none m17 .resv).1 0) eg).bind fun m22=>
 (ai (some 3) m22 x6).bind fun fS=>
 (ai (some 3) m22 (.ptr (ak none m17 .resv).1 0)).bind fun gD=>
 (ao (AP ab) none m22 29 [fS,gD]).bind fun oT=>
 (aA (some 3) oT.2 x6 oT.1).bind fun m26=>
 (aJ none x0 x8).bind fun gL=>
 (ai none m26 gL).bind fun fU=>
 (aY false fU).bind fun jP=>
 zE x0 x1 x5 x6 x7 x8 x9 (.ptr (ak none m17 .resv).1 0) jP (.int .i64 0) m26 (BE K)) (
 (aJ none x0 x8).bind fun v30=>
 (ai none m v30).bind fun ki=>
 (aJ (some 3) ki x9).bind fun kS=>
 (ai (some 3) m kS).bind fun lA=>
 (aA (some 3) (ak none m (.obj true [(.bool false),(.lst none true .full []),(.lst none true .full [])])).2 (.ptr (ak none m .resv).1 0) lA).bind fun m34=>
 (ai (some 3) m34 x6).bind fun lB=>
 (ai (some 3) m34 (.ptr (ak none m .resv).1 0)).bind fun ry=>
 (ao (AP ab) none m34 29 [lB,ry]).bind fun sM=>
 (aA (some 3) sM.2 x6 sM.1).bind fun m38=>
 (aJ none x0 x8).bind fun rz=>
 (ai none m38 rz).bind fun ta=>
 (aY false ta).bind fun vy=>
 zE x0 x1 x5 x6 x7 x8 x9 (.ptr (ak none m .resv).1 0) vy (.int .i64 0) m38 (BE K))):=by kernel_rfl
theorem qav(x0 x1 x5 x6 x7 x8 x9 nV lC:AV)(m:ae)(K:KT):Jk K (.exit 8) (J5 x0 x1 x5 x6 x7 x8 x9 nV lC m) =
 (af .other .add lC (.int .i64 1)).bind fun v1=>
 zF x0 x1 x5 x6 x7 x8 x9 nV v1 m K:=by kernel_rfl
theorem qan(x0 x1 x5 x6 x7 x8 x9:AV)(m:ae)(K:KT):BE K (.exit 4) (J3 x0 x1 x5 x6 x7 x8 x9 m) =
 (aY false x0).bind fun v1=>
 zF x0 x1 x5 x6 x7 x8 x9 v1 (.int .i64 0) m (BF K):=by kernel_rfl
theorem qar(x0 x1 x5 x6 x7 x8 x9:AV)(m:ae)(K:KT):BF K (.exit 6) (J4 x0 x1 x5 x6 x7 x8 x9 m) =
 (aJ none x7 x9).bind fun v1=>
 (aA none m v1 x8).bind fun m2=>
 (af .other .add x8 (.int .i64 1)).bind fun v3=>
 (af .other .add x9 (.int .i64 1)).bind fun v4=>
 zG x0 x1 x5 x6 x7 v3 v4 m2 K:=by kernel_rfl
end Go.Ab
namespace Go.Ab
open Go.Proofs.Try
end Go.Ab
namespace Go.Ab
open Go.Proofs.Try
theorem T93(a0:AV)(m:ae):AC ab 93 [a0] m =
 (bF .u32 a0).bind fun v1=>
 (af .other .shr a0 (.int .u64 32)).bind fun v2=>
 (bF .u32 v2).bind fun v3=>
 (iq none [v1,v3]).bind fun v4=>
 (ao (AP ab) none m 124 [v4]).bind fun r5=>
 (ao (AP ab) none r5.2 123 [r5.1]).bind fun r6=>
 some (r6.1,r6.2):=
(bW ab 93 [a0] m (fn:=f93) (c:=al f93) qeM rfl).trans (by kernel_rfl)
theorem T94(a0:AV)(m:ae):AC ab 94 [a0] m =
 (aY false a0).bind fun v1=>
 (af .other .eql v1 (.int .i64 0)).bind fun v2=>
 au v2 (
 some ((.bool true),m)) (
 (aY false a0).bind fun v3=>
 (af .other .sub v3 (.int .i64 1)).bind fun v4=>
 (aJ none a0 v4).bind fun v5=>
 (ai none m v5).bind fun v6=>
 (af .other .neq v6 (.int .u32 0)).bind fun v7=>
 some (v7,m)):=
(bW ab 94 [a0] m (fn:=f94) (c:=al f94) qeN rfl).trans (by kernel_rfl)
theorem T95(a0:AV)(m:ae):AC ab 95 [a0] m =
 (ao (AP ab) none m 124 [a0]).bind fun r1=>
 (aY false r1.1).bind fun v2=>
 (af .other .eql v2 (.int .i64 0)).bind fun v3=>
 au v3 (
 some ((.tup [(.int .u64 0),(.bool true)]),r1.2)) (
 (af .other .eql v2 (.int .i64 1)).bind fun v4=>
 au v4 (
 (aJ none r1.1 (.int .i64 0)).bind fun v5=>
 (ai none r1.2 v5).bind fun v6=>
 (bF .u64 v6).bind fun v7=>
 some ((.tup [v7,(.bool true)]),r1.2)) (
 (af .other .eql v2 (.int .i64 2)).bind fun v8=>
 au v8 (
 (aJ none r1.1 (.int .i64 0)).bind fun v9=>
 (ai none r1.2 v9).bind fun v10=>
 (bF .u64 v10).bind fun v11=>
 (aJ none r1.1 (.int .i64 1)).bind fun aV=>
 (ai none r1.2 aV).bind fun bL=>
 (bF .u64 bL).bind fun bM=>
 (af .other .shl bM (.int .u64 32)).bind fun bz=>
 (af .other .or v11 bz).bind fun bQ=>
 some ((.tup [bQ,(.bool true)]),r1.2)) (
 some ((.tup [(.int .u64 0),(.bool false)]),r1.2)))):=
(bW ab 95 [a0] m (fn:=f95) (c:=al f95) qeO rfl).trans (by kernel_rfl)
def J6(x0:AV)(m:ae):St:=⟨[x0,.any,.any,.any,.any,.any,.any,.any,.any,.any,.any,.any,.any,.any,.any,.any,.any,.any,.any,.any,.any,.any,.any,.any,.any,.any],m⟩
noncomputable def Fc(x0 x1:AV)(m:ae)(K:KT):OM:=bP (aq ab 96 (AP ab) (AC ab) (c1 (c1 (c1 (c2 (c2 (al f96))))))) (ab.mask 96 (some 2)) ⟨[x0,x1,.any,.any,.any,.any,.any,.any,.any,.any,.any,.any,.any,.any,.any,.any,.any,.any,.any,.any,.any,.any,.any,.any,.any,.any],m⟩ K
noncomputable abbrev qaJ(K:KT):KT:=dQ (fun st=>aq ab 96 (AP ab) (AC ab) (c2 (c2 (c2 (al f96)))) st K) K
noncomputable abbrev qaK(K:KT):KT:=dK 0 (qaJ K)
noncomputable abbrev Jm(K:KT):KT:=(qaK K)
theorem T96(a0 a1:AV)(m:ae):AC ab 96 [a0,a1] m =
 (ao (AP ab) none m 124 [a0]).bind fun r1=>
 (ao (AP ab) none r1.2 124 [a1]).bind fun r2=>
 Fc r1.1 r2.1 r2.2 (Jm (aN ab.P f96.results.toList)):=
(bW ab 96 [a0,a1] m (fn:=f96) (c:=al f96) qeP rfl).trans (by kernel_rfl)
theorem qbd(x0 x1:AV)(m:ae)(K:KT):Fc x0 x1 m K =
 (aY false x1).bind fun v1=>
 (af .other .gtr v1 (.int .i64 0)).bind fun v2=>
 au v2 (
 (ao (AP ab) none m 125 [x0,x1]).bind fun r3=>
 (bg r3.1 0).bind fun v4=>
 (bg r3.1 1).bind fun v5=>
 (bg r3.1 2).bind fun v6=>
 Fc x1 v5 r3.2 K) (
 K (.exit 0) (J6 x0 m)):=
(eu (ed _) _ _ _).trans (by kernel_rfl)
theorem qaL(x0:AV)(m:ae):Jm (aN ab.P f96.results.toList) (.exit 0) (J6 x0 m) =
 (ao (AP ab) none m 123 [x0]).bind fun r1=>
 some (r1.1,r1.2):=by kernel_rfl
def JA(x5:AV)(m:ae):St:=⟨[.any,.any,.any,.any,.any,x5,.any,.any,.any,.any,.any,.any,.any,.any,.any,.any,.any,.any,.any,.any,.any,.any,.any,.any,.any,.any,.any,.any,.any,.any,.any,.any,.any,.any,.any,.any,.any,.any,.any,.any,.any,.any,.any,.any,.any,.any,.any,.any,.any,.any,.any,.any,.any,.any,.any,.any,.any,.any,.any,.any,.any,.any,.any,.any,.any,.any,.any,.any,.any,.any,.any],m⟩
noncomputable def EN(x1 x5 jn gF ig:AV)(m:ae)(K:KT):OM:=bP (aq ab 107 (AP ab) (AC ab) (c1 (c1 (c2 (c1 (c2 (c2 (c2 (al f107))))))))) (ab.mask 107 (some 4)) ⟨[.any,x1,.any,.any,.any,x5,.any,.any,.any,.any,.any,.any,.any,.any,.any,.any,.any,.any,.any,.any,.any,jn,gF,ig,.any,.any,.any,.any,.any,.any,.any,.any,.any,.any,.any,.any,.any,.any,.any,.any,.any,.any,.any,.any,.any,.any,.any,.any,.any,.any,.any,.any,.any,.any,.any,.any,.any,.any,.any,.any,.any,.any,.any,.any,.any,.any,.any,.any,.any,.any,.any],m⟩ K
def JB(x1 x5 x6 x8 jn gF ig:AV)(m:ae):St:=⟨[.any,x1,.any,.any,.any,x5,x6,.any,x8,.any,.any,.any,.any,.any,.any,.any,.any,.any,.any,.any,.any,jn,gF,ig,.any,.any,.any,.any,.any,.any,.any,.any,.any,.any,.any,.any,.any,.any,.any,.any,.any,.any,.any,.any,.any,.any,.any,.any,.any,.any,.any,.any,.any,.any,.any,.any,.any,.any,.any,.any,.any,.any,.any,.any,.any,.any,.any,.any,.any,.any,.any],m⟩
noncomputable def EO(x1 x5 x6 x7 x8 jn gF ig Ef tc lY:AV)(m:ae)(K:KT):OM:=bP (aq ab 107 (AP ab) (AC ab) (c1 (c1 (c2 (c1 (c2 (c2 (c1 (c1 (c2 (c2 (c1 (c1 (c2 (c1 (c2 (c2 (c2 (al f107))))))))))))))))))) (ab.mask 107 (some 8)) ⟨[.any,x1,.any,.any,.any,x5,x6,x7,x8,.any,.any,.any,.any,.any,.any,.any,.any,.any,.any,.any,.any,jn,gF,ig,.any,.any,.any,.any,Ef,tc,lY,.any,.any,.any,.any,.any,.any,.any,.any,.any,.any,.any,.any,.any,.any,.any,.any,.any,.any,.any,.any,.any,.any,.any,.any,.any,.any,.any,.any,.any,.any,.any,.any,.any,.any,.any,.any,.any,.any,.any,.any],m⟩ K
noncomputable abbrev Yo(K:KT):KT:=dQ (fun st=>aq ab 107 (AP ab) (AC ab) (c2 (c2 (c2 (c2 (al f107))))) st K) K
noncomputable abbrev Yp(K:KT):KT:=dK 0 (Yo K)
noncomputable abbrev IZ(K:KT):KT:=(Yp K)
noncomputable abbrev Yr(K:KT):KT:=dQ (fun st=>aq ab 107 (AP ab) (AC ab) (c2 (c2 (c2 (c1 (c1 (c2 (c1 (c2 (c2 (c2 (al f107))))))))))) st (fz (fun st=>bP (aq ab 107 (AP ab) (AC ab) (c1 (c1 (c2 (c1 (c2 (c2 (c2 (al f107))))))))) (ab.mask 107 (some 4)) st K) (ab.mask 107 (some 4)) K)) (fz (fun st=>bP (aq ab 107 (AP ab) (AC ab) (c1 (c1 (c2 (c1 (c2 (c2 (c2 (al f107))))))))) (ab.mask 107 (some 4)) st K) (ab.mask 107 (some 4)) K)
noncomputable abbrev OW(K:KT):KT:=dK 1 (Yr K)
noncomputable abbrev Ys(K:KT):KT:=dQ (fun st=>aq ab 107 (AP ab) (AC ab) (c2 (c2 (c2 (c1 (c1 (c2 (c2 (c1 (c1 (c2 (c1 (c2 (c2 (c2 (al f107))))))))))))))) st (OW K)) (OW K)
noncomputable abbrev Yt(K:KT):KT:=dK 2 (Ys K)
noncomputable abbrev I0(K:KT):KT:=(Yt K)
theorem qbL(a0 a1:AV)(m:ae):AC ab 107 [a0,a1] m =
 (ao (AP ab) none m 124 [a0]).bind fun r1=>
 (ao (AP ab) none r1.2 124 [a1]).bind fun r2=>
 (aY false r1.1).bind fun v3=>
 (aY false r2.1).bind fun v4=>
 (af .other .add v3 v4).bind fun v5=>
 (jM none 116 none (.int .u32 0) 4 r2.2 v5 v5).bind fun r6=>
 (aY false r1.1).bind fun v7=>
 EN r2.1 r6.1 r1.1 v7 (.int .i64 0) r6.2 (IZ (aN ab.P f107.results.toList)):=
(bW ab 107 [a0,a1] m (fn:=f107) (c:=al f107) qdv rfl).trans (by kernel_rfl)
theorem Pq(x1 x5 jn gF ig:AV)(m:ae)(K:KT):EN x1 x5 jn gF ig m K =
 (af .other .lss ig gF).bind fun v1=>
 au v1 (
 (aJ none jn ig).bind fun v2=>
 (ai none m v2).bind fun v3=>
 (aY false x1).bind fun v4=>
 EO x1 x5 ig v3 (.int .u64 0) jn gF ig x1 v4 (.int .i64 0) m (I0 K)) (
 K (.exit 0) (JA x5 m)):=
(eu (ed _) _ _ _).trans (by kernel_rfl)
theorem Pr(x1 x5 x6 x7 x8 jn gF ig Ef tc lY:AV)(m:ae)(K:KT):EO x1 x5 x6 x7 x8 jn gF ig Ef tc lY m K =
 (af .other .lss lY tc).bind fun v1=>
 au v1 (
 (aJ none Ef lY).bind fun v2=>
 (ai none m v2).bind fun v3=>
 (af .other .add x6 lY).bind fun v4=>
 (aJ none x5 v4).bind fun v5=>
 (ai none m v5).bind fun v6=>
 (bF .u64 v6).bind fun v7=>
 (bF .u64 x7).bind fun v8=>
 (bF .u64 v3).bind fun v9=>
 (af .other .mul v8 v9).bind fun v10=>
 (af .other .add v7 v10).bind fun v11=>
 (af .other .add x8 v11).bind fun aV=>
 (af .other .add x6 lY).bind fun bL=>
 (bF .u32 aV).bind fun bM=>
 (aJ none x5 bL).bind fun bz=>
 (aA none m bz bM).bind fun m16=>
 (af .other .shr aV (.int .u64 32)).bind fun bV=>
 (af .other .add lY (.int .i64 1)).bind fun dU=>
 EO x1 x5 x6 x7 bV jn gF ig Ef tc dU m16 K) (
 K (.exit 2) (JB x1 x5 x6 x8 jn gF ig m)):=
(eu (ed _) _ _ _).trans (by kernel_rfl)
theorem Yq(x5:AV)(m:ae):IZ (aN ab.P f107.results.toList) (.exit 0) (JA x5 m) =
 (ao (AP ab) none m 124 [x5]).bind fun r1=>
 some (r1.1,r1.2):=by kernel_rfl
theorem Yu(x1 x5 x6 x8 jn gF ig:AV)(m:ae)(K:KT):I0 K (.exit 2) (JB x1 x5 x6 x8 jn gF ig m) =
 (aY false x1).bind fun v1=>
 (af .other .add x6 v1).bind fun v2=>
 (bF .u32 x8).bind fun v3=>
 (aJ none x5 v2).bind fun v4=>
 (aA none m v4 v3).bind fun m5=>
 (af .other .add ig (.int .i64 1)).bind fun v6=>
 EN x1 x5 jn gF v6 m5 K:=by kernel_rfl
def Fp(x5 x6:AV)(m:ae):St:=⟨[.any,.any,.any,.any,.any,x5,x6,.any,.any,.any,.any,.any,.any,.any,.any,.any,.any,.any,.any,.any,.any,.any,.any,.any,.any,.any,.any,.any,.any,.any,.any,.any,.any,.any,.any,.any,.any,.any,.any,.any,.any,.any,.any,.any,.any,.any,.any,.any,.any,.any,.any,.any,.any,.any,.any,.any,.any,.any,.any,.any],m⟩
noncomputable def zw(x1 x5 x6 lX mq vz:AV)(m:ae)(K:KT):OM:=bP (aq ab 108 (AP ab) (AC ab) (c1 (c1 (c2 (c1 (c2 (c2 (c2 (c2 (c2 (al f108))))))))))) (ab.mask 108 (some 7)) ⟨[.any,x1,.any,.any,.any,x5,x6,.any,.any,.any,.any,.any,.any,.any,.any,.any,.any,.any,.any,.any,.any,.any,.any,.any,lX,mq,vz,.any,.any,.any,.any,.any,.any,.any,.any,.any,.any,.any,.any,.any,.any,.any,.any,.any,.any,.any,.any,.any,.any,.any,.any,.any,.any,.any,.any,.any,.any,.any,.any,.any],m⟩ K
noncomputable abbrev Yv(K:KT):KT:=dQ (fun st=>aq ab 108 (AP ab) (AC ab) (c2 (c2 (c2 (c2 (c2 (c2 (al f108))))))) st K) K
noncomputable abbrev Yw(K:KT):KT:=dK 0 (Yv K)
noncomputable abbrev zs(K:KT):KT:=(Yw K)
theorem qbN(a0 a1:AV)(m:ae):AC ab 108 [a0,a1] m =
 (ao (AP ab) none m 124 [a0]).bind fun r1=>
 (ao (AP ab) none r1.2 124 [a1]).bind fun r2=>
 (aY false r1.1).bind fun v3=>
 (aY false r2.1).bind fun v4=>
 (af .other .lss v3 v4).bind fun v5=>
 au v5 (
 (aY false r2.1).bind fun v6=>
 (af .other .add v6 (.int .i64 1)).bind fun v7=>
 (jM none 116 none (.int .u32 0) 4 r2.2 (.int .i64 0) v7).bind fun r8=>
 (aY false r2.1).bind fun v9=>
 zw r1.1 r8.1 (.int .u64 0) r2.1 v9 (.int .i64 0) r8.2 (zs (aN ab.P f108.results.toList))) (
 (aY false r1.1).bind fun v10=>
 (af .other .add v10 (.int .i64 1)).bind fun v11=>
 (jM none 116 none (.int .u32 0) 4 r2.2 (.int .i64 0) v11).bind fun qf=>
 (aY false r1.1).bind fun bL=>
 zw r2.1 qf.1 (.int .u64 0) r1.1 bL (.int .i64 0) qf.2 (zs (aN ab.P f108.results.toList))):=
(bW ab 108 [a0,a1] m (fn:=f108) (c:=al f108) qdw rfl).trans (by kernel_rfl)
theorem Pu(x1 x5 x6 lX mq vz:AV)(m:ae)(K:KT):zw x1 x5 x6 lX mq vz m K =
 (af .other .lss vz mq).bind fun v1=>
 au v1 (
 (aJ none lX vz).bind fun v2=>
 (ai none m v2).bind fun v3=>
 (bF .u64 v3).bind fun v4=>
 (af .other .add x6 v4).bind fun v5=>
 (aY false x1).bind fun v6=>
 (af .other .lss vz v6).bind fun v7=>
 au v7 (
 (aJ none x1 vz).bind fun v8=>
 (ai none m v8).bind fun v9=>
 (bF .u64 v9).bind fun v10=>
 (af .other .add v5 v10).bind fun v11=>
 (bF .u32 v11).bind fun aV=>
 (iq none [aV]).bind fun bL=>
 (eG none false 116 none 4 m x5 bL).bind fun rm=>
 (af .other .shr v11 (.int .u64 32)).bind fun bz=>
 (af .other .add vz (.int .i64 1)).bind fun bQ=>
 zw x1 rm.1 bz lX mq bQ rm.2 K) (
 (bF .u32 v5).bind fun bV=>
 (iq none [bV]).bind fun dU=>
 (eG none false 116 none 4 m x5 dU).bind fun sJ=>
 (af .other .shr v5 (.int .u64 32)).bind fun v20=>
 (af .other .add vz (.int .i64 1)).bind fun eg=>
 zw x1 sJ.1 v20 lX mq eg sJ.2 K)) (
 K (.exit 0) (Fp x5 x6 m)):=
(eu (ed _) _ _ _).trans (by kernel_rfl)
theorem Yx(x5 x6:AV)(m:ae):zs (aN ab.P f108.results.toList) (.exit 0) (Fp x5 x6 m) =
 (bF .u32 x6).bind fun v1=>
 (iq none [v1]).bind fun v2=>
 (eG none false 116 none 4 m x5 v2).bind fun r3=>
 (ao (AP ab) none r3.2 124 [r3.1]).bind fun r4=>
 some (r4.1,r4.2):=by kernel_rfl
def JC(m:ae):St:=⟨[.any,.any,.any,.any,.any,.any,.any,.any,.any,.any,.any,.any,.any,.any,.any,.any,.any,.any,.any,.any,.any,.any,.any,.any,.any,.any,.any,.any,.any,.any,.any,.any,.any,.any,.any,.any,.any,.any,.any,.any,.any,.any,.any,.any,.any,.any,.any,.any,.any],m⟩
def FA(x4:AV)(m:ae):St:=⟨[.any,.any,.any,.any,x4,.any,.any,.any,.any,.any,.any,.any,.any,.any,.any,.any,.any,.any,.any,.any,.any,.any,.any,.any,.any,.any,.any,.any,.any,.any,.any,.any,.any,.any,.any,.any,.any,.any,.any,.any,.any,.any,.any,.any,.any,.any,.any,.any,.any],m⟩
noncomputable def EP(x0 x1 x5:AV)(m:ae)(K:KT):OM:=bP (aq ab 109 (AP ab) (AC ab) (c1 (c1 (c2 (c1 (c2 (c2 (c2 (al f109))))))))) (ab.mask 109 (some 7)) ⟨[x0,x1,.any,.any,.any,x5,.any,.any,.any,.any,.any,.any,.any,.any,.any,.any,.any,.any,.any,.any,.any,.any,.any,.any,.any,.any,.any,.any,.any,.any,.any,.any,.any,.any,.any,.any,.any,.any,.any,.any,.any,.any,.any,.any,.any,.any,.any,.any,.any],m⟩ K
noncomputable abbrev Yy(K:KT):KT:=dQ (fun st=>aq ab 109 (AP ab) (AC ab) (c2 (c2 (c2 (c2 (al f109))))) st K) K
noncomputable abbrev Yz(K:KT):KT:=dK 1 (Yy K)
noncomputable abbrev Ew(K:KT):KT:=(Yz K)
theorem qbP(a0 a1:AV)(m:ae):AC ab 109 [a0,a1] m =
 (ao (AP ab) none m 124 [a0]).bind fun r1=>
 (ao (AP ab) none r1.2 124 [a1]).bind fun r2=>
 (aY false r1.1).bind fun v3=>
 (aY false r2.1).bind fun v4=>
 (af .other .lss v3 v4).bind fun v5=>
 au v5 (
 some ((.int .i64 (-1)),r2.2)) (
 (aY false r1.1).bind fun v6=>
 (aY false r2.1).bind fun v7=>
 (af .other .gtr v6 v7).bind fun v8=>
 au v8 (
 some ((.int .i64 1),r2.2)) (
 (aY false r1.1).bind fun v9=>
 (af .other .sub v9 (.int .i64 1)).bind fun v10=>
 EP r1.1 r2.1 v10 r2.2 (Ew (aN ab.P f109.results.toList)))):=
(bW ab 109 [a0,a1] m (fn:=f109) (c:=al f109) qdx rfl).trans (by kernel_rfl)
theorem Pv(x0 x1 x5:AV)(m:ae)(K:KT):EP x0 x1 x5 m K =
 (af .other .geq x5 (.int .i64 0)).bind fun v1=>
 au v1 (
 (aJ none x0 x5).bind fun v2=>
 (ai none m v2).bind fun v3=>
 (aJ none x1 x5).bind fun v4=>
 (ai none m v4).bind fun v5=>
 (af .other .lss v3 v5).bind fun v6=>
 au v6 (
 K .ret (FA (.int .i64 (-1)) m)) (
 (aJ none x0 x5).bind fun v7=>
 (ai none m v7).bind fun v8=>
 (aJ none x1 x5).bind fun v9=>
 (ai none m v9).bind fun v10=>
 (af .other .gtr v8 v10).bind fun v11=>
 au v11 (
 K .ret (FA (.int .i64 1) m)) (
 (af .other .sub x5 (.int .i64 1)).bind fun aV=>
 EP x0 x1 aV m K))) (
 K (.exit 1) (JC m)):=
(eu (ed _) _ _ _).trans (by kernel_rfl)
theorem YB(m:ae):Ew (aN ab.P f109.results.toList) (.exit 1) (JC  m) =
 some ((.int .i64 0),m):=by kernel_rfl
theorem YA(x4:AV)(m:ae):Ew (aN ab.P f109.results.toList) .ret (FA x4 m) =
 some (x4,m):=by kernel_rfl
def JD(x6:AV)(m:ae):St:=⟨[.any,.any,.any,.any,.any,.any,x6,.any,.any,.any,.any,.any,.any,.any,.any,.any,.any,.any,.any,.any,.any,.any,.any,.any,.any,.any,.any,.any,.any,.any,.any,.any,.any,.any,.any,.any,.any,.any,.any,.any,.any,.any,.any,.any,.any,.any,.any,.any,.any,.any,.any,.any,.any,.any,.any,.any,.any,.any,.any],m⟩
noncomputable def xo(x1 x6 x7 gF ig lX:AV)(m:ae)(K:KT):OM:=bP (aq ab 110 (AP ab) (AC ab) (c1 (c1 (c2 (c1 (c2 (c2 (c2 (c2 (c2 (al f110))))))))))) (ab.mask 110 (some 7)) ⟨[.any,x1,.any,.any,.any,.any,x6,x7,.any,.any,.any,.any,.any,.any,.any,.any,.any,.any,.any,.any,.any,.any,gF,ig,lX,.any,.any,.any,.any,.any,.any,.any,.any,.any,.any,.any,.any,.any,.any,.any,.any,.any,.any,.any,.any,.any,.any,.any,.any,.any,.any,.any,.any,.any,.any,.any,.any,.any,.any],m⟩ K
noncomputable abbrev YC(K:KT):KT:=dQ (fun st=>aq ab 110 (AP ab) (AC ab) (c2 (c2 (c2 (c2 (c2 (c2 (al f110))))))) st K) K
noncomputable abbrev YD(K:KT):KT:=dK 0 (YC K)
noncomputable abbrev I1(K:KT):KT:=(YD K)
theorem Qm(a0 a1:AV)(m:ae):AC ab 110 [a0,a1] m =
 (ao (AP ab) none m 109 [a0,a1]).bind fun r1=>
 (af .other .lss r1.1 (.int .i64 0)).bind fun v2=>
 au v2 (
 some ((.tup [(.lst none true .full []),(.int .i64 1)]),r1.2)) (
 (ao (AP ab) none r1.2 124 [a0]).bind fun r3=>
 (ao (AP ab) none r3.2 124 [a1]).bind fun r4=>
 (aY false r3.1).bind fun v5=>
 (jM none 116 none (.int .u32 0) 4 r4.2 v5 v5).bind fun r6=>
 (aY false r3.1).bind fun v7=>
 xo r4.1 r6.1 (.int .u64 0) r3.1 v7 (.int .i64 0) r6.2 (I1 (aN ab.P f110.results.toList))):=
(bW ab 110 [a0,a1] m (fn:=f110) (c:=al f110) qdy rfl).trans (by kernel_rfl)
theorem Pw(x1 x6 x7 gF ig lX:AV)(m:ae)(K:KT):xo x1 x6 x7 gF ig lX m K =
 (af .other .lss lX ig).bind fun v1=>
 au v1 (
 (aJ none gF lX).bind fun v2=>
 (ai none m v2).bind fun v3=>
 (aY false x1).bind fun v4=>
 (af .other .lss lX v4).bind fun v5=>
 au v5 (
 (aJ none x1 lX).bind fun v6=>
 (ai none m v6).bind fun v7=>
 (bF .u64 v7).bind fun v8=>
 (af .other .add x7 v8).bind fun v9=>
 (bF .u64 v3).bind fun v10=>
 (af .other .lss v10 v9).bind fun v11=>
 au v11 (
 (bF .u64 v3).bind fun aV=>
 (af .other .shl (.int .u64 1) (.int .u64 32)).bind fun bL=>
 (af .other .add aV bL).bind fun bM=>
 (af .other .sub bM v9).bind fun bz=>
 (bF .u32 bz).bind fun bQ=>
 (aJ none x6 lX).bind fun bV=>
 (aA none m bV bQ).bind fun m18=>
 (af .other .add lX (.int .i64 1)).bind fun dL=>
 xo x1 x6 (.int .u64 1) gF ig dL m18 K) (
 (bF .u64 v3).bind fun v20=>
 (af .other .shl (.int .u64 0) (.int .u64 32)).bind fun eg=>
 (af .other .add v20 eg).bind fun dV=>
 (af .other .sub dV v9).bind fun fS=>
 (bF .u32 fS).bind fun gD=>
 (aJ none x6 lX).bind fun fT=>
 (aA none m fT gD).bind fun m26=>
 (af .other .add lX (.int .i64 1)).bind fun gL=>
 xo x1 x6 (.int .u64 0) gF ig gL m26 K)) (
 (bF .u64 v3).bind fun fU=>
 (af .other .lss fU x7).bind fun jP=>
 au jP (
 (bF .u64 v3).bind fun v30=>
 (af .other .shl (.int .u64 1) (.int .u64 32)).bind fun ki=>
 (af .other .add v30 ki).bind fun kS=>
 (af .other .sub kS x7).bind fun lA=>
 (bF .u32 lA).bind fun pG=>
 (aJ none x6 lX).bind fun lB=>
 (aA none m lB pG).bind fun m36=>
 (af .other .add lX (.int .i64 1)).bind fun vu=>
 xo x1 x6 (.int .u64 1) gF ig vu m36 K) (
 (bF .u64 v3).bind fun vw=>
 (af .other .shl (.int .u64 0) (.int .u64 32)).bind fun rz=>
 (af .other .add vw rz).bind fun ta=>
 (af .other .sub ta x7).bind fun vy=>
 (bF .u32 vy).bind fun D4=>
 (aJ none x6 lX).bind fun zj=>
 (aA none m zj D4).bind fun m44=>
 (af .other .add lX (.int .i64 1)).bind fun zk=>
 xo x1 x6 (.int .u64 0) gF ig zk m44 K))) (
 K (.exit 0) (JD x6 m)):=
(eu (ed _) _ _ _).trans (by kernel_rfl)
theorem YE(x6:AV)(m:ae):I1 (aN ab.P f110.results.toList) (.exit 0) (JD x6 m) =
 (ao (AP ab) none m 124 [x6]).bind fun r1=>
 some ((.tup [r1.1,(.int .i64 0)]),r1.2):=by kernel_rfl
theorem Ki(a0:AV)(m:ae):AC ab 123 [a0] m =
 (af .sl .eql a0 (.lst none true .full [])).bind fun v1=>
 au v1 (
 some ((.lst none true .full []),m)) (
 (iq none []).bind fun v2=>
 (eG none false 116 none 4 m v2 a0).bind fun r3=>
 some (r3.1,r3.2)):=
(bW ab 123 [a0] m (fn:=f123) (c:=al f123) qdJ rfl).trans (by kernel_rfl)
def Ft(x0 x3:AV)(m:ae):St:=⟨[x0,.any,.any,x3,.any,.any,.any,.any,.any,.any,.any,.any,.any,.any,.any,.any,.any,.any,.any,.any,.any],m⟩
noncomputable def ER(x0 x3:AV)(m:ae)(K:KT):OM:=bP (aq ab 124 (AP ab) (AC ab) (c1 (c1 (c1 (c2 (c2 (al f124))))))) (ab.mask 124 (some 2)) ⟨[x0,.any,.any,x3,.any,.any,.any,.any,.any,.any,.any,.any,.any,.any,.any,.any,.any,.any,.any,.any,.any],m⟩ K
noncomputable abbrev YV(K:KT):KT:=dQ (fun st=>aq ab 124 (AP ab) (AC ab) (c2 (c2 (c2 (al f124)))) st K) K
noncomputable abbrev YW(K:KT):KT:=dK 0 (YV K)
noncomputable abbrev I4(K:KT):KT:=(YW K)
theorem qbZ(a0:AV)(m:ae):AC ab 124 [a0] m =
 (aY false a0).bind fun v1=>
 ER a0 v1 m (I4 (aN ab.P f124.results.toList)):=
(bW ab 124 [a0] m (fn:=f124) (c:=al f124) qdK rfl).trans (by kernel_rfl)
theorem PC(x0 x3:AV)(m:ae)(K:KT):ER x0 x3 m K =
 (af .other .gtr x3 (.int .i64 0)).bind fun v1=>
 au v1 (
 (af .other .sub x3 (.int .i64 1)).bind fun v2=>
 (aJ none x0 v2).bind fun v3=>
 (ai none m v3).bind fun v4=>
 (af .other .eql v4 (.int .u32 0)).bind fun v5=>
 au v5 (
 (af .other .sub x3 (.int .i64 1)).bind fun v6=>
 ER x0 v6 m K) (
 K (.exit 0) (Ft x0 x3 m))) (
 K (.exit 0) (Ft x0 x3 m)):=
(eu (ed _) _ _ _).trans (by kernel_rfl)
theorem YX(x0 x3:AV)(m:ae):I4 (aN ab.P f124.results.toList) (.exit 0) (Ft x0 x3 m) =
 (nS none x0 none (some x3) none).bind fun v1=>
 some (v1,m):=by kernel_rfl
def JH(x9 aT cq bo:AV)(m:ae):St:=⟨[.any,.any,.any,.any,.any,.any,.any,.any,.any,x9,aT,.any,cq,bo,.any,.any,.any,.any,.any,.any,.any,.any,.any,.any,.any,.any,.any,.any,.any,.any,.any,.any,.any,.any,.any,.any,.any,.any,.any,.any,.any,.any,.any,.any,.any,.any,.any,.any,.any,.any,.any,.any,.any,.any,.any,.any,.any,.any,.any,.any,.any,.any,.any,.any,.any,.any,.any,.any,.any,.any,.any,.any,.any,.any,.any,.any,.any,.any,.any,.any,.any,.any,.any,.any,.any,.any,.any,.any,.any,.any,.any,.any,.any,.any,.any,.any,.any,.any,.any,.any,.any,.any,.any,.any,.any,.any,.any,.any,.any,.any,.any,.any,.any,.any,.any,.any,.any,.any,.any,.any,.any,.any,.any,.any,.any,.any,.any,.any,.any,.any,.any,.any,.any,.any,.any,.any,.any,.any,.any,.any,.any,.any,.any,.any,.any,.any,.any,.any,.any,.any,.any,.any,.any,.any,.any,.any,.any,.any,.any,.any,.any,.any,.any,.any,.any,.any,.any,.any,.any,.any,.any,.any,.any,.any,.any,.any,.any,.any,.any,.any,.any,.any,.any,.any,.any,.any,.any,.any,.any,.any,.any,.any,.any,.any,.any,.any,.any,.any,.any,.any,.any,.any,.any,.any,.any,.any,.any,.any,.any,.any,.any,.any,.any,.any,.any,.any,.any,.any,.any,.any,.any,.any,.any,.any,.any,.any,.any,.any,.any,.any,.any,.any,.any,.any,.any,.any,.any,.any,.any,.any,.any,.any,.any,.any,.any,.any,.any,.any,.any,.any,.any,.any,.any,.any,.any,.any,.any,.any,.any,.any,.any,.any,.any,.any,.any,.any,.any,.any,.any,.any,.any,.any,.any,.any,.any,.any,.any,.any,.any,.any,.any,.any,.any,.any,.any,.any,.any,.any,.any,.any,.any,.any,.any,.any,.any,.any,.any,.any,.any,.any,.any,.any,.any,.any,.any,.any,.any,.any,.any,.any,.any,.any,.any,.any,.any],m⟩
noncomputable def BM(x9 aT cn cq bo bG:AV)(m:ae)(K:KT):OM:=bP (aq ab 125 (AP ab) (AC ab) (c1 (c1 (c2 (c1 (c2 (c2 (c2 (c2 (c2 (c2 (c2 (al f125))))))))))))) (ab.mask 125 (some 14)) ⟨[.any,.any,.any,.any,.any,.any,.any,.any,.any,x9,aT,cn,cq,bo,bG,.any,.any,.any,.any,.any,.any,.any,.any,.any,.any,.any,.any,.any,.any,.any,.any,.any,.any,.any,.any,.any,.any,.any,.any,.any,.any,.any,.any,.any,.any,.any,.any,.any,.any,.any,.any,.any,.any,.any,.any,.any,.any,.any,.any,.any,.any,.any,.any,.any,.any,.any,.any,.any,.any,.any,.any,.any,.any,.any,.any,.any,.any,.any,.any,.any,.any,.any,.any,.any,.any,.any,.any,.any,.any,.any,.any,.any,.any,.any,.any,.any,.any,.any,.any,.any,.any,.any,.any,.any,.any,.any,.any,.any,.any,.any,.any,.any,.any,.any,.any,.any,.any,.any,.any,.any,.any,.any,.any,.any,.any,.any,.any,.any,.any,.any,.any,.any,.any,.any,.any,.any,.any,.any,.any,.any,.any,.any,.any,.any,.any,.any,.any,.any,.any,.any,.any,.any,.any,.any,.any,.any,.any,.any,.any,.any,.any,.any,.any,.any,.any,.any,.any,.any,.any,.any,.any,.any,.any,.any,.any,.any,.any,.any,.any,.any,.any,.any,.any,.any,.any,.any,.any,.any,.any,.any,.any,.any,.any,.any,.any,.any,.any,.any,.any,.any,.any,.any,.any,.any,.any,.any,.any,.any,.any,.any,.any,.any,.any,.any,.any,.any,.any,.any,.any,.any,.any,.any,.any,.any,.any,.any,.any,.any,.any,.any,.any,.any,.any,.any,.any,.any,.any,.any,.any,.any,.any,.any,.any,.any,.any,.any,.any,.any,.any,.any,.any,.any,.any,.any,.any,.any,.any,.any,.any,.any,.any,.any,.any,.any,.any,.any,.any,.any,.any,.any,.any,.any,.any,.any,.any,.any,.any,.any,.any,.any,.any,.any,.any,.any,.any,.any,.any,.any,.any,.any,.any,.any,.any,.any,.any,.any,.any,.any,.any,.any,.any,.any,.any,.any,.any,.any,.any,.any,.any,.any,.any,.any,.any,.any,.any],m⟩ K
def xy(x9 aT cn cq bo bG gj:AV)(m:ae):St:=⟨[.any,.any,.any,.any,.any,.any,.any,.any,.any,x9,aT,cn,cq,bo,bG,.any,gj,.any,.any,.any,.any,.any,.any,.any,.any,.any,.any,.any,.any,.any,.any,.any,.any,.any,.any,.any,.any,.any,.any,.any,.any,.any,.any,.any,.any,.any,.any,.any,.any,.any,.any,.any,.any,.any,.any,.any,.any,.any,.any,.any,.any,.any,.any,.any,.any,.any,.any,.any,.any,.any,.any,.any,.any,.any,.any,.any,.any,.any,.any,.any,.any,.any,.any,.any,.any,.any,.any,.any,.any,.any,.any,.any,.any,.any,.any,.any,.any,.any,.any,.any,.any,.any,.any,.any,.any,.any,.any,.any,.any,.any,.any,.any,.any,.any,.any,.any,.any,.any,.any,.any,.any,.any,.any,.any,.any,.any,.any,.any,.any,.any,.any,.any,.any,.any,.any,.any,.any,.any,.any,.any,.any,.any,.any,.any,.any,.any,.any,.any,.any,.any,.any,.any,.any,.any,.any,.any,.any,.any,.any,.any,.any,.any,.any,.any,.any,.any,.any,.any,.any,.any,.any,.any,.any,.any,.any,.any,.any,.any,.any,.any,.any,.any,.any,.any,.any,.any,.any,.any,.any,.any,.any,.any,.any,.any,.any,.any,.any,.any,.any,.any,.any,.any,.any,.any,.any,.any,.any,.any,.any,.any,.any,.any,.any,.any,.any,.any,.any,.any,.any,.any,.any,.any,.any,.any,.any,.any,.any,.any,.any,.any,.any,.any,.any,.any,.any,.any,.any,.any,.any,.any,.any,.any,.any,.any,.any,.any,.any,.any,.any,.any,.any,.any,.any,.any,.any,.any,.any,.any,.any,.any,.any,.any,.any,.any,.any,.any,.any,.any,.any,.any,.any,.any,.any,.any,.any,.any,.any,.any,.any,.any,.any,.any,.any,.any,.any,.any,.any,.any,.any,.any,.any,.any,.any,.any,.any,.any,.any,.any,.any,.any,.any,.any,.any,.any,.any,.any,.any,.any,.any,.any,.any,.any,.any,.any,.any],m⟩
noncomputable def zx(x9 aT cn cq bo bG gj rE:AV)(m:ae)(K:KT):OM:=bP (aq ab 125 (AP ab) (AC ab) (c1 (c1 (c1 (c2 (c2 (c1 (c1 (c2 (c1 (c1 (c2 (c1 (c2 (c2 (c2 (c2 (c2 (c2 (c2 (al f125))))))))))))))))))))) (ab.mask 125 (some 18)) ⟨[.any,.any,.any,.any,.any,.any,.any,.any,.any,x9,aT,cn,cq,bo,bG,.any,gj,rE,.any,.any,.any,.any,.any,.any,.any,.any,.any,.any,.any,.any,.any,.any,.any,.any,.any,.any,.any,.any,.any,.any,.any,.any,.any,.any,.any,.any,.any,.any,.any,.any,.any,.any,.any,.any,.any,.any,.any,.any,.any,.any,.any,.any,.any,.any,.any,.any,.any,.any,.any,.any,.any,.any,.any,.any,.any,.any,.any,.any,.any,.any,.any,.any,.any,.any,.any,.any,.any,.any,.any,.any,.any,.any,.any,.any,.any,.any,.any,.any,.any,.any,.any,.any,.any,.any,.any,.any,.any,.any,.any,.any,.any,.any,.any,.any,.any,.any,.any,.any,.any,.any,.any,.any,.any,.any,.any,.any,.any,.any,.any,.any,.any,.any,.any,.any,.any,.any,.any,.any,.any,.any,.any,.any,.any,.any,.any,.any,.any,.any,.any,.any,.any,.any,.any,.any,.any,.any,.any,.any,.any,.any,.any,.any,.any,.any,.any,.any,.any,.any,.any,.any,.any,.any,.any,.any,.any,.any,.any,.any,.any,.any,.any,.any,.any,.any,.any,.any,.any,.any,.any,.any,.any,.any,.any,.any,.any,.any,.any,.any,.any,.any,.any,.any,.any,.any,.any,.any,.any,.any,.any,.any,.any,.any,.any,.any,.any,.any,.any,.any,.any,.any,.any,.any,.any,.any,.any,.any,.any,.any,.any,.any,.any,.any,.any,.any,.any,.any,.any,.any,.any,.any,.any,.any,.any,.any,.any,.any,.any,.any,.any,.any,.any,.any,.any,.any,.any,.any,.any,.any,.any,.any,.any,.any,.any,.any,.any,.any,.any,.any,.any,.any,.any,.any,.any,.any,.any,.any,.any,.any,.any,.any,.any,.any,.any,.any,.any,.any,.any,.any,.any,.any,.any,.any,.any,.any,.any,.any,.any,.any,.any,.any,.any,.any,.any,.any,.any,.any,.any,.any,.any,.any,.any,.any,.any,.any,.any],m⟩ K
def JI(x9 aT cn cq bo bG gj ov mo:AV)(m:ae):St:=⟨[.any,.any,.any,.any,.any,.any,.any,.any,.any,x9,aT,cn,cq,bo,bG,.any,gj,.any,ov,mo,.any,.any,.any,.any,.any,.any,.any,.any,.any,.any,.any,.any,.any,.any,.any,.any,.any,.any,.any,.any,.any,.any,.any,.any,.any,.any,.any,.any,.any,.any,.any,.any,.any,.any,.any,.any,.any,.any,.any,.any,.any,.any,.any,.any,.any,.any,.any,.any,.any,.any,.any,.any,.any,.any,.any,.any,.any,.any,.any,.any,.any,.any,.any,.any,.any,.any,.any,.any,.any,.any,.any,.any,.any,.any,.any,.any,.any,.any,.any,.any,.any,.any,.any,.any,.any,.any,.any,.any,.any,.any,.any,.any,.any,.any,.any,.any,.any,.any,.any,.any,.any,.any,.any,.any,.any,.any,.any,.any,.any,.any,.any,.any,.any,.any,.any,.any,.any,.any,.any,.any,.any,.any,.any,.any,.any,.any,.any,.any,.any,.any,.any,.any,.any,.any,.any,.any,.any,.any,.any,.any,.any,.any,.any,.any,.any,.any,.any,.any,.any,.any,.any,.any,.any,.any,.any,.any,.any,.any,.any,.any,.any,.any,.any,.any,.any,.any,.any,.any,.any,.any,.any,.any,.any,.any,.any,.any,.any,.any,.any,.any,.any,.any,.any,.any,.any,.any,.any,.any,.any,.any,.any,.any,.any,.any,.any,.any,.any,.any,.any,.any,.any,.any,.any,.any,.any,.any,.any,.any,.any,.any,.any,.any,.any,.any,.any,.any,.any,.any,.any,.any,.any,.any,.any,.any,.any,.any,.any,.any,.any,.any,.any,.any,.any,.any,.any,.any,.any,.any,.any,.any,.any,.any,.any,.any,.any,.any,.any,.any,.any,.any,.any,.any,.any,.any,.any,.any,.any,.any,.any,.any,.any,.any,.any,.any,.any,.any,.any,.any,.any,.any,.any,.any,.any,.any,.any,.any,.any,.any,.any,.any,.any,.any,.any,.any,.any,.any,.any,.any,.any,.any,.any,.any,.any,.any,.any],m⟩
noncomputable def BN(x9 aT cn cq bo bG gj ov mo Bn rD:AV)(m:ae)(K:KT):OM:=bP (aq ab 125 (AP ab) (AC ab) (c1 (c1 (c2 (c1 (c2 (c2 (c2 (c2 (c1 (c1 (c2 (c1 (c1 (c2 (c1 (c2 (c2 (c2 (c2 (c2 (c2 (c2 (al f125)))))))))))))))))))))))) (ab.mask 125 (some 24)) ⟨[.any,.any,.any,.any,.any,.any,.any,.any,.any,x9,aT,cn,cq,bo,bG,.any,gj,.any,ov,mo,.any,.any,.any,.any,.any,.any,.any,.any,.any,.any,.any,.any,.any,.any,.any,.any,.any,.any,.any,.any,.any,.any,.any,.any,.any,.any,.any,.any,.any,.any,.any,.any,.any,.any,.any,.any,.any,.any,.any,.any,.any,.any,.any,.any,.any,.any,.any,.any,.any,.any,.any,.any,.any,.any,.any,.any,.any,.any,.any,.any,.any,.any,.any,.any,.any,.any,.any,.any,.any,.any,.any,.any,.any,.any,.any,.any,.any,.any,.any,.any,.any,.any,.any,.any,.any,.any,.any,.any,.any,.any,.any,.any,.any,.any,.any,.any,.any,.any,.any,.any,.any,.any,.any,.any,.any,.any,.any,.any,.any,.any,.any,.any,.any,.any,.any,.any,.any,.any,.any,.any,.any,.any,.any,.any,.any,.any,.any,.any,.any,.any,.any,.any,.any,.any,.any,.any,.any,.any,Bn,rD,.any,.any,.any,.any,.any,.any,.any,.any,.any,.any,.any,.any,.any,.any,.any,.any,.any,.any,.any,.any,.any,.any,.any,.any,.any,.any,.any,.any,.any,.any,.any,.any,.any,.any,.any,.any,.any,.any,.any,.any,.any,.any,.any,.any,.any,.any,.any,.any,.any,.any,.any,.any,.any,.any,.any,.any,.any,.any,.any,.any,.any,.any,.any,.any,.any,.any,.any,.any,.any,.any,.any,.any,.any,.any,.any,.any,.any,.any,.any,.any,.any,.any,.any,.any,.any,.any,.any,.any,.any,.any,.any,.any,.any,.any,.any,.any,.any,.any,.any,.any,.any,.any,.any,.any,.any,.any,.any,.any,.any,.any,.any,.any,.any,.any,.any,.any,.any,.any,.any,.any,.any,.any,.any,.any,.any,.any,.any,.any,.any,.any,.any,.any,.any,.any,.any,.any,.any,.any,.any,.any,.any,.any,.any,.any,.any,.any,.any,.any,.any,.any,.any,.any,.any,.any,.any],m⟩ K
def JJ(x9 aT cn cq bo bG gj mo:AV)(m:ae):St:=⟨[.any,.any,.any,.any,.any,.any,.any,.any,.any,x9,aT,cn,cq,bo,bG,.any,gj,.any,.any,mo,.any,.any,.any,.any,.any,.any,.any,.any,.any,.any,.any,.any,.any,.any,.any,.any,.any,.any,.any,.any,.any,.any,.any,.any,.any,.any,.any,.any,.any,.any,.any,.any,.any,.any,.any,.any,.any,.any,.any,.any,.any,.any,.any,.any,.any,.any,.any,.any,.any,.any,.any,.any,.any,.any,.any,.any,.any,.any,.any,.any,.any,.any,.any,.any,.any,.any,.any,.any,.any,.any,.any,.any,.any,.any,.any,.any,.any,.any,.any,.any,.any,.any,.any,.any,.any,.any,.any,.any,.any,.any,.any,.any,.any,.any,.any,.any,.any,.any,.any,.any,.any,.any,.any,.any,.any,.any,.any,.any,.any,.any,.any,.any,.any,.any,.any,.any,.any,.any,.any,.any,.any,.any,.any,.any,.any,.any,.any,.any,.any,.any,.any,.any,.any,.any,.any,.any,.any,.any,.any,.any,.any,.any,.any,.any,.any,.any,.any,.any,.any,.any,.any,.any,.any,.any,.any,.any,.any,.any,.any,.any,.any,.any,.any,.any,.any,.any,.any,.any,.any,.any,.any,.any,.any,.any,.any,.any,.any,.any,.any,.any,.any,.any,.any,.any,.any,.any,.any,.any,.any,.any,.any,.any,.any,.any,.any,.any,.any,.any,.any,.any,.any,.any,.any,.any,.any,.any,.any,.any,.any,.any,.any,.any,.any,.any,.any,.any,.any,.any,.any,.any,.any,.any,.any,.any,.any,.any,.any,.any,.any,.any,.any,.any,.any,.any,.any,.any,.any,.any,.any,.any,.any,.any,.any,.any,.any,.any,.any,.any,.any,.any,.any,.any,.any,.any,.any,.any,.any,.any,.any,.any,.any,.any,.any,.any,.any,.any,.any,.any,.any,.any,.any,.any,.any,.any,.any,.any,.any,.any,.any,.any,.any,.any,.any,.any,.any,.any,.any,.any,.any,.any,.any,.any,.any,.any,.any],m⟩
noncomputable def ES(x9 aT cn cq bo bG gj mo Ee xi:AV)(m:ae)(K:KT):OM:=bP (aq ab 125 (AP ab) (AC ab) (c1 (c1 (c2 (c1 (c2 (c2 (c1 (c2 (c1 (c2 (c2 (c2 (c2 (c2 (c2 (c2 (c2 (c1 (c1 (c2 (c1 (c1 (c2 (c1 (c2 (c2 (c2 (c2 (c2 (c2 (c2 (al f125))))))))))))))))))))))))))))))))) (ab.mask 125 (some 41)) ⟨[.any,.any,.any,.any,.any,.any,.any,.any,.any,x9,aT,cn,cq,bo,bG,.any,gj,.any,.any,mo,.any,.any,.any,.any,.any,.any,.any,.any,.any,.any,.any,.any,.any,.any,.any,.any,.any,.any,.any,.any,.any,.any,.any,.any,.any,.any,.any,.any,.any,.any,.any,.any,.any,.any,.any,.any,.any,.any,.any,.any,.any,.any,.any,.any,.any,.any,.any,.any,.any,.any,.any,.any,.any,.any,.any,.any,.any,.any,.any,.any,.any,.any,.any,.any,.any,.any,.any,.any,.any,.any,.any,.any,.any,.any,.any,.any,.any,.any,.any,.any,.any,.any,.any,.any,.any,.any,.any,.any,.any,.any,.any,.any,.any,.any,.any,.any,.any,.any,.any,.any,.any,.any,.any,.any,.any,.any,.any,.any,.any,.any,.any,.any,.any,.any,.any,.any,.any,.any,.any,.any,.any,.any,.any,.any,.any,.any,.any,.any,.any,.any,.any,.any,.any,.any,.any,.any,.any,.any,.any,.any,.any,.any,.any,.any,.any,.any,.any,.any,.any,.any,.any,.any,.any,.any,.any,.any,.any,.any,.any,.any,.any,.any,.any,.any,.any,.any,.any,.any,.any,.any,.any,.any,.any,.any,.any,.any,.any,.any,.any,.any,.any,.any,.any,.any,.any,.any,.any,.any,.any,.any,.any,.any,.any,.any,.any,.any,.any,.any,.any,.any,.any,.any,.any,.any,.any,.any,.any,.any,.any,.any,.any,.any,.any,.any,.any,Ee,xi,.any,.any,.any,.any,.any,.any,.any,.any,.any,.any,.any,.any,.any,.any,.any,.any,.any,.any,.any,.any,.any,.any,.any,.any,.any,.any,.any,.any,.any,.any,.any,.any,.any,.any,.any,.any,.any,.any,.any,.any,.any,.any,.any,.any,.any,.any,.any,.any,.any,.any,.any,.any,.any,.any,.any,.any,.any,.any,.any,.any,.any,.any,.any,.any,.any,.any,.any,.any,.any,.any,.any,.any,.any,.any,.any,.any,.any,.any],m⟩ K
def JK(bo mq:AV)(m:ae):St:=⟨[.any,.any,.any,.any,.any,.any,.any,.any,.any,.any,.any,.any,.any,bo,.any,.any,.any,.any,.any,.any,.any,.any,.any,.any,.any,mq,.any,.any,.any,.any,.any,.any,.any,.any,.any,.any,.any,.any,.any,.any,.any,.any,.any,.any,.any,.any,.any,.any,.any,.any,.any,.any,.any,.any,.any,.any,.any,.any,.any,.any,.any,.any,.any,.any,.any,.any,.any,.any,.any,.any,.any,.any,.any,.any,.any,.any,.any,.any,.any,.any,.any,.any,.any,.any,.any,.any,.any,.any,.any,.any,.any,.any,.any,.any,.any,.any,.any,.any,.any,.any,.any,.any,.any,.any,.any,.any,.any,.any,.any,.any,.any,.any,.any,.any,.any,.any,.any,.any,.any,.any,.any,.any,.any,.any,.any,.any,.any,.any,.any,.any,.any,.any,.any,.any,.any,.any,.any,.any,.any,.any,.any,.any,.any,.any,.any,.any,.any,.any,.any,.any,.any,.any,.any,.any,.any,.any,.any,.any,.any,.any,.any,.any,.any,.any,.any,.any,.any,.any,.any,.any,.any,.any,.any,.any,.any,.any,.any,.any,.any,.any,.any,.any,.any,.any,.any,.any,.any,.any,.any,.any,.any,.any,.any,.any,.any,.any,.any,.any,.any,.any,.any,.any,.any,.any,.any,.any,.any,.any,.any,.any,.any,.any,.any,.any,.any,.any,.any,.any,.any,.any,.any,.any,.any,.any,.any,.any,.any,.any,.any,.any,.any,.any,.any,.any,.any,.any,.any,.any,.any,.any,.any,.any,.any,.any,.any,.any,.any,.any,.any,.any,.any,.any,.any,.any,.any,.any,.any,.any,.any,.any,.any,.any,.any,.any,.any,.any,.any,.any,.any,.any,.any,.any,.any,.any,.any,.any,.any,.any,.any,.any,.any,.any,.any,.any,.any,.any,.any,.any,.any,.any,.any,.any,.any,.any,.any,.any,.any,.any,.any,.any,.any,.any,.any,.any,.any,.any,.any,.any,.any,.any,.any,.any,.any,.any,.any],m⟩
noncomputable def BO(x9 aT bo mq Bp tb:AV)(m:ae)(K:KT):OM:=bP (aq ab 125 (AP ab) (AC ab) (c1 (c1 (c2 (c1 (c2 (c2 (c2 (c2 (c2 (c2 (c2 (c2 (c2 (al f125))))))))))))))) (ab.mask 125 (some 51)) ⟨[.any,.any,.any,.any,.any,.any,.any,.any,.any,x9,aT,.any,.any,bo,.any,.any,.any,.any,.any,.any,.any,.any,.any,.any,.any,mq,.any,.any,.any,.any,.any,.any,.any,.any,.any,.any,.any,.any,.any,.any,.any,.any,.any,.any,.any,.any,.any,.any,.any,.any,.any,.any,.any,.any,.any,.any,.any,.any,.any,.any,.any,.any,.any,.any,.any,.any,.any,.any,.any,.any,.any,.any,.any,.any,.any,.any,.any,.any,.any,.any,.any,.any,.any,.any,.any,.any,.any,.any,.any,.any,.any,.any,.any,.any,.any,.any,.any,.any,.any,.any,.any,.any,.any,.any,.any,.any,.any,.any,.any,.any,.any,.any,.any,.any,.any,.any,.any,.any,.any,.any,.any,.any,.any,.any,.any,.any,.any,.any,.any,.any,.any,.any,.any,.any,.any,.any,.any,.any,.any,.any,.any,.any,.any,.any,.any,.any,.any,.any,.any,.any,.any,.any,.any,.any,.any,.any,.any,.any,.any,.any,.any,.any,.any,.any,.any,.any,.any,.any,.any,.any,.any,.any,.any,.any,.any,.any,.any,.any,.any,.any,.any,.any,.any,.any,.any,.any,.any,.any,.any,.any,.any,.any,.any,.any,.any,.any,.any,.any,.any,.any,.any,.any,.any,.any,.any,.any,.any,.any,.any,.any,.any,.any,.any,.any,.any,.any,.any,.any,.any,.any,.any,.any,.any,.any,.any,.any,.any,.any,.any,.any,.any,.any,.any,.any,.any,.any,.any,.any,.any,.any,.any,.any,.any,.any,.any,.any,.any,.any,.any,.any,.any,.any,.any,.any,.any,.any,.any,.any,.any,.any,.any,.any,.any,.any,.any,.any,.any,.any,.any,.any,.any,.any,.any,.any,.any,.any,.any,.any,.any,.any,.any,Bp,tb,.any,.any,.any,.any,.any,.any,.any,.any,.any,.any,.any,.any,.any,.any,.any,.any,.any,.any,.any,.any,.any,.any,.any,.any,.any,.any,.any,.any,.any,.any,.any,.any],m⟩ K
noncomputable abbrev YY(K:KT):KT:=dQ (fun st=>aq ab 125 (AP ab) (AC ab) (c2 (c2 (c2 (c2 (c2 (c2 (c2 (c2 (al f125))))))))) st K) K
noncomputable abbrev YZ(K:KT):KT:=dK 1 (YY K)
noncomputable abbrev I5(K:KT):KT:=(YZ K)
noncomputable abbrev Y1(K:KT):KT:=dQ (fun st=>aq ab 125 (AP ab) (AC ab) (c2 (c2 (c1 (c1 (c2 (c1 (c2 (c2 (c2 (c2 (c2 (c2 (c2 (al f125)))))))))))))) st (fz (fun st=>bP (aq ab 125 (AP ab) (AC ab) (c1 (c1 (c2 (c1 (c2 (c2 (c2 (c2 (c2 (c2 (c2 (al f125))))))))))))) (ab.mask 125 (some 14)) st K) (ab.mask 125 (some 14)) K)) (fz (fun st=>bP (aq ab 125 (AP ab) (AC ab) (c1 (c1 (c2 (c1 (c2 (c2 (c2 (c2 (c2 (c2 (c2 (al f125))))))))))))) (ab.mask 125 (some 14)) st K) (ab.mask 125 (some 14)) K)
noncomputable abbrev OZ(K:KT):KT:=dK 2 (Y1 K)
noncomputable abbrev Y2(K:KT):KT:=dQ (fun st=>aq ab 125 (AP ab) (AC ab) (c2 (c2 (c2 (c1 (c1 (c2 (c1 (c1 (c2 (c1 (c2 (c2 (c2 (c2 (c2 (c2 (c2 (al f125)))))))))))))))))) st (OZ K)) (OZ K)
noncomputable abbrev Y3(K:KT):KT:=dK 3 (Y2 K)
noncomputable abbrev I6(K:KT):KT:=(Y3 K)
noncomputable abbrev Zd(K:KT):KT:=dQ (fun st=>aq ab 125 (AP ab) (AC ab) (c2 (c2 (c2 (c2 (c2 (c2 (c2 (c2 (c2 (c2 (al f125))))))))))) st K) K
noncomputable abbrev Ze(K:KT):KT:=dK 9 (Zd K)
noncomputable abbrev I9(K:KT):KT:=(Ze K)
noncomputable abbrev Y5(K:KT):KT:=dQ (fun st=>aq ab 125 (AP ab) (AC ab) (c2 (c2 (c1 (c1 (c2 (c1 (c2 (c2 (c2 (c2 (c2 (c2 (c2 (al f125)))))))))))))) st (fz (fun st=>bP (aq ab 125 (AP ab) (AC ab) (c1 (c1 (c2 (c1 (c2 (c2 (c2 (c2 (c2 (c2 (c2 (al f125))))))))))))) (ab.mask 125 (some 14)) st K) (ab.mask 125 (some 14)) K)) (fz (fun st=>bP (aq ab 125 (AP ab) (AC ab) (c1 (c1 (c2 (c1 (c2 (c2 (c2 (c2 (c2 (c2 (c2 (al f125))))))))))))) (ab.mask 125 (some 14)) st K) (ab.mask 125 (some 14)) K)
noncomputable abbrev O0(K:KT):KT:=dK 2 (Y5 K)
noncomputable abbrev Y6(K:KT):KT:=dQ (fun st=>aq ab 125 (AP ab) (AC ab) (c2 (c2 (c2 (c2 (c2 (c1 (c1 (c2 (c1 (c1 (c2 (c1 (c2 (c2 (c2 (c2 (c2 (c2 (c2 (al f125)))))))))))))))))))) st (O0 K)) (O0 K)
noncomputable abbrev Y7(K:KT):KT:=dK 5 (Y6 K)
noncomputable abbrev I7(K:KT):KT:=(Y7 K)
noncomputable abbrev Y9(K:KT):KT:=dQ (fun st=>aq ab 125 (AP ab) (AC ab) (c2 (c2 (c1 (c1 (c2 (c1 (c2 (c2 (c2 (c2 (c2 (c2 (c2 (al f125)))))))))))))) st (fz (fun st=>bP (aq ab 125 (AP ab) (AC ab) (c1 (c1 (c2 (c1 (c2 (c2 (c2 (c2 (c2 (c2 (c2 (al f125))))))))))))) (ab.mask 125 (some 14)) st K) (ab.mask 125 (some 14)) K)) (fz (fun st=>bP (aq ab 125 (AP ab) (AC ab) (c1 (c1 (c2 (c1 (c2 (c2 (c2 (c2 (c2 (c2 (c2 (al f125))))))))))))) (ab.mask 125 (some 14)) st K) (ab.mask 125 (some 14)) K)
noncomputable abbrev O1(K:KT):KT:=dK 2 (Y9 K)
noncomputable abbrev O2(K:KT):KT:=dQ (fun st=>aq ab 125 (AP ab) (AC ab) (c2 (c2 (c2 (c2 (c2 (c2 (c2 (c2 (c2 (c1 (c1 (c2 (c1 (c1 (c2 (c1 (c2 (c2 (c2 (c2 (c2 (c2 (c2 (al f125)))))))))))))))))))))))) st (O1 K)) (O1 K)
noncomputable abbrev Za(K:KT):KT:=dQ (fun st=>aq ab 125 (AP ab) (AC ab) (c2 (c2 (c2 (c1 (c2 (c1 (c2 (c2 (c2 (c2 (c2 (c2 (c2 (c2 (c1 (c1 (c2 (c1 (c1 (c2 (c1 (c2 (c2 (c2 (c2 (c2 (c2 (c2 (al f125))))))))))))))))))))))))))))) st (O2 K)) (O2 K)
noncomputable abbrev Zb(K:KT):KT:=dK 7 (Za K)
noncomputable abbrev I8(K:KT):KT:=(Zb K)
theorem FF(a0 a1:AV)(m:ae):AC ab 125 [a0,a1] m =
 (ao (AP ab) none m 124 [a0]).bind fun r1=>
 (ao (AP ab) none r1.2 124 [a1]).bind fun r2=>
 (aY false r2.1).bind fun v3=>
 (af .other .eql v3 (.int .i64 0)).bind fun v4=>
 au v4 (
 some ((.tup [(.lst none true .full []),(.lst none true .full []),(.int .i64 31)]),r2.2)) (
 (ao (AP ab) none r2.2 109 [r1.1,r2.1]).bind fun r5=>
 (af .other .lss r5.1 (.int .i64 0)).bind fun v6=>
 au v6 (
 (ao (AP ab) none r5.2 123 [r1.1]).bind fun r7=>
 some ((.tup [(.lst none true .full []),r7.1,(.int .i64 0)]),r7.2)) (
 (aY false r2.1).bind fun v8=>
 (af .other .eql v8 (.int .i64 1)).bind fun v9=>
 au v9 (
 (aJ none r2.1 (.int .i64 0)).bind fun v10=>
 (ai none r5.2 v10).bind fun v11=>
 (ao (AP ab) none r5.2 136 [r1.1,v11]).bind fun qf=>
 (bg qf.1 0).bind fun bL=>
 (bg qf.1 1).bind fun bM=>
 (bF .u64 bM).bind fun bz=>
 (ao (AP ab) none qf.2 93 [bz]).bind fun js=>
 some ((.tup [bL,js.1,(.int .i64 0)]),js.2)) (
 (aY false r2.1).bind fun bV=>
 (af .other .sub bV (.int .i64 1)).bind fun dU=>
 (aJ none r2.1 dU).bind fun dL=>
 (ai none r5.2 dL).bind fun v20=>
 (ao (AP ab) none r5.2 137 [v20]).bind fun DK=>
 (bF .u64 DK.1).bind fun dV=>
 (AC ab 138 [r1.1,dV] DK.2).bind fun jN=>
 (AC ab 138 [r2.1,dV] jN.2).bind fun kQ=>
 (ao (AP ab) none kQ.2 124 [kQ.1]).bind fun oT=>
 (aY false oT.1).bind fun gW=>
 (aY false jN.1).bind fun gL=>
 (af .other .sub gL gW).bind fun fU=>
 (jM none 116 none (.int .u32 0) 4 oT.2 fU fU).bind fun AY=>
 (aY false jN.1).bind fun v30=>
 (af .other .sub v30 gW).bind fun ki=>
 (af .other .sub ki (.int .i64 1)).bind fun kS=>
 BM dV jN.1 oT.1 gW AY.1 kS AY.2 (I5 (aN ab.P f125.results.toList))))):=
(bW ab 125 [a0,a1] m (fn:=f125) (c:=al f125) qdL rfl).trans (by kernel_rfl)
theorem PD(x9 aT cn cq bo bG:AV)(m:ae)(K:KT):BM x9 aT cn cq bo bG m K =
 (af .other .geq bG (.int .i64 0)).bind fun v1=>
 au v1 (
 (af .other .add bG cq).bind fun v2=>
 (aJ none aT v2).bind fun v3=>
 (ai none m v3).bind fun v4=>
 (bF .u64 v4).bind fun v5=>
 (af .other .shl v5 (.int .u64 32)).bind fun v6=>
 (af .other .add bG cq).bind fun v7=>
 (af .other .sub v7 (.int .i64 1)).bind fun v8=>
 (aJ none aT v8).bind fun v9=>
 (ai none m v9).bind fun v10=>
 (bF .u64 v10).bind fun v11=>
 (af .other .or v6 v11).bind fun aV=>
 (af .other .sub cq (.int .i64 1)).bind fun bL=>
 (aJ none cn bL).bind fun bM=>
 (ai none m bM).bind fun bz=>
 (bF .u64 bz).bind fun bQ=>
 (af .other .quo aV bQ).bind fun bV=>
 (af .other .sub cq (.int .i64 1)).bind fun dU=>
 (aJ none cn dU).bind fun dL=>
 (ai none m dL).bind fun v20=>
 (bF .u64 v20).bind fun eg=>
 (af .other .rem aV eg).bind fun dV=>
 zx x9 aT cn cq bo bG bV dV m (I6 K)) (
 K (.exit 1) (JH x9 aT cq bo m)):=
(eu (ed _) _ _ _).trans (by kernel_rfl)
theorem qba(x9 aT cn cq bo bG gj rE:AV)(m:ae)(K:KT):zx x9 aT cn cq bo bG gj rE m K =
 (af .other .geq gj (.int .u64 4294967296)).bind fun v1=>
 au v1 (
 (af .other .sub gj (.int .u64 1)).bind fun v2=>
 (af .other .sub cq (.int .i64 1)).bind fun v3=>
 (aJ none cn v3).bind fun v4=>
 (ai none m v4).bind fun v5=>
 (bF .u64 v5).bind fun v6=>
 (af .other .add rE v6).bind fun v7=>
 (af .other .geq v7 (.int .u64 4294967296)).bind fun v8=>
 au v8 (
 K (.exit 3) (xy x9 aT cn cq bo bG v2 m)) (
 zx x9 aT cn cq bo bG v2 v7 m K)) (
 (af .other .sub cq (.int .i64 2)).bind fun v9=>
 (aJ none cn v9).bind fun v10=>
 (ai none m v10).bind fun v11=>
 (bF .u64 v11).bind fun aV=>
 (af .other .mul gj aV).bind fun bL=>
 (af .other .shl rE (.int .u64 32)).bind fun bM=>
 (af .other .add bG cq).bind fun bz=>
 (af .other .sub bz (.int .i64 2)).bind fun bQ=>
 (aJ none aT bQ).bind fun bV=>
 (ai none m bV).bind fun dU=>
 (bF .u64 dU).bind fun dL=>
 (af .other .or bM dL).bind fun v20=>
 (af .other .gtr bL v20).bind fun eg=>
 au eg (
 (af .other .sub gj (.int .u64 1)).bind fun dV=>
 (af .other .sub cq (.int .i64 1)).bind fun fS=>
 (aJ none cn fS).bind fun gD=>
 (ai none m gD).bind fun fT=>
 (bF .u64 fT).bind fun gW=>
 (af .other .add rE gW).bind fun gL=>
 (af .other .geq gL (.int .u64 4294967296)).bind fun fU=>
 au fU (
 K (.exit 3) (xy x9 aT cn cq bo bG dV m)) (
 zx x9 aT cn cq bo bG dV gL m K)) (
 K (.exit 3) (xy x9 aT cn cq bo bG gj m))):=
(eu (ed _) _ _ _).trans (by kernel_rfl)
theorem PE(x9 aT cn cq bo bG gj ov mo Bn rD:AV)(m:ae)(K:KT):BN x9 aT cn cq bo bG gj ov mo Bn rD m K =
 (af .other .lss rD Bn).bind fun v1=>
 au v1 (
 (aJ none cn rD).bind fun v2=>
 (ai none m v2).bind fun v3=>
 (bF .u64 v3).bind fun v4=>
 (af .other .mul gj v4).bind fun v5=>
 (af .other .add mo v5).bind fun v6=>
 (af .other .and v6 (.int .u64 4294967295)).bind fun v7=>
 (af .other .add v7 ov).bind fun v8=>
 (af .other .add rD bG).bind fun v9=>
 (aJ none aT v9).bind fun v10=>
 (ai none m v10).bind fun v11=>
 (bF .u64 v11).bind fun aV=>
 (af .other .lss aV v8).bind fun bL=>
 au bL (
 (af .other .add rD bG).bind fun bM=>
 (af .other .add rD bG).bind fun bz=>
 (aJ none aT bz).bind fun bQ=>
 (ai none m bQ).bind fun bV=>
 (bF .u64 bV).bind fun dU=>
 (af .other .shl (.int .u64 1) (.int .u64 32)).bind fun dL=>
 (af .other .add dU dL).bind fun v20=>
 (af .other .sub v20 v8).bind fun eg=>
 (bF .u32 eg).bind fun dV=>
 (aJ none aT bM).bind fun fS=>
 (aA none m fS dV).bind fun m24=>
 (af .other .shr v6 (.int .u64 32)).bind fun fT=>
 (af .other .add rD (.int .i64 1)).bind fun gW=>
 BN x9 aT cn cq bo bG gj (.int .u64 1) fT Bn gW m24 K) (
 (af .other .add rD bG).bind fun gL=>
 (af .other .add rD bG).bind fun fU=>
 (aJ none aT fU).bind fun jP=>
 (ai none m jP).bind fun v30=>
 (bF .u64 v30).bind fun ki=>
 (af .other .shl (.int .u64 0) (.int .u64 32)).bind fun kS=>
 (af .other .add ki kS).bind fun lA=>
 (af .other .sub lA v8).bind fun pG=>
 (bF .u32 pG).bind fun lB=>
 (aJ none aT gL).bind fun ry=>
 (aA none m ry lB).bind fun m37=>
 (af .other .shr v6 (.int .u64 32)).bind fun vw=>
 (af .other .add rD (.int .i64 1)).bind fun rz=>
 BN x9 aT cn cq bo bG gj (.int .u64 0) vw Bn rz m37 K)) (
 K (.exit 5) (JI x9 aT cn cq bo bG gj ov mo m)):=
(eu (ed _) _ _ _).trans (by kernel_rfl)
theorem PF(x9 aT cn cq bo bG gj mo Ee xi:AV)(m:ae)(K:KT):ES x9 aT cn cq bo bG gj mo Ee xi m K =
 (af .other .lss xi Ee).bind fun v1=>
 au v1 (
 (af .other .add xi bG).bind fun v2=>
 (aJ none aT v2).bind fun v3=>
 (ai none m v3).bind fun v4=>
 (bF .u64 v4).bind fun v5=>
 (aJ none cn xi).bind fun v6=>
 (ai none m v6).bind fun v7=>
 (bF .u64 v7).bind fun v8=>
 (af .other .add v5 v8).bind fun v9=>
 (af .other .add mo v9).bind fun v10=>
 (af .other .add xi bG).bind fun v11=>
 (bF .u32 v10).bind fun aV=>
 (aJ none aT v11).bind fun bL=>
 (aA none m bL aV).bind fun m14=>
 (af .other .shr v10 (.int .u64 32)).bind fun bz=>
 (af .other .add xi (.int .i64 1)).bind fun bQ=>
 ES x9 aT cn cq bo bG gj bz Ee bQ m14 K) (
 K (.exit 7) (JJ x9 aT cn cq bo bG gj mo m)):=
(eu (ed _) _ _ _).trans (by kernel_rfl)
theorem PG(x9 aT bo mq Bp tb:AV)(m:ae)(K:KT):BO x9 aT bo mq Bp tb m K =
 (af .other .lss tb Bp).bind fun v1=>
 au v1 (
 (aJ none aT tb).bind fun v2=>
 (ai none m v2).bind fun v3=>
 (af .other .shr v3 x9).bind fun v4=>
 (aJ none mq tb).bind fun v5=>
 (aA none m v5 v4).bind fun m6=>
 (af .other .gtr x9 (.int .u64 0)).bind fun v7=>
 au v7 (
 (aJ none mq tb).bind fun v8=>
 (ai none m6 v8).bind fun v9=>
 (af .other .add tb (.int .i64 1)).bind fun v10=>
 (aJ none aT v10).bind fun v11=>
 (ai none m6 v11).bind fun aV=>
 (af .other .sub (.int .u64 32) x9).bind fun bL=>
 (af .other .shl aV bL).bind fun bM=>
 (af .other .or v9 bM).bind fun bz=>
 (aJ none mq tb).bind fun bQ=>
 (aA none m6 bQ bz).bind fun m17=>
 (af .other .add tb (.int .i64 1)).bind fun dU=>
 BO x9 aT bo mq Bp dU m17 K) (
 (af .other .add tb (.int .i64 1)).bind fun dL=>
 BO x9 aT bo mq Bp dL m6 K)) (
 K (.exit 9) (JK bo mq m)):=
(eu (ed _) _ _ _).trans (by kernel_rfl)
theorem Y0(x9 aT cq bo:AV)(m:ae):I5 (aN ab.P f125.results.toList) (.exit 1) (JH x9 aT cq bo m) =
 (jM none 116 none (.int .u32 0) 4 m cq cq).bind fun r1=>
 BO x9 aT bo r1.1 cq (.int .i64 0) r1.2 (I9 (aN ab.P f125.results.toList)):=by kernel_rfl
theorem Y4(x9 aT cn cq bo bG gj:AV)(m:ae)(K:KT):I6 K (.exit 3) (xy x9 aT cn cq bo bG gj m) =
 BN x9 aT cn cq bo bG gj (.int .u64 0) (.int .u64 0) cq (.int .i64 0) m (I7 K):=by kernel_rfl
theorem Zf(bo mq:AV)(m:ae):I9 (aN ab.P f125.results.toList) (.exit 9) (JK bo mq m) =
 (ao (AP ab) none m 124 [bo]).bind fun r1=>
 (ao (AP ab) none r1.2 124 [mq]).bind fun r2=>
 some ((.tup [r1.1,r2.1,(.int .i64 0)]),r2.2):=by kernel_rfl
theorem Y8(x9 aT cn cq bo bG gj ov mo:AV)(m:ae)(K:KT):I7 K (.exit 5) (JI x9 aT cn cq bo bG gj ov mo m) =
 (af .other .add mo ov).bind fun v1=>
 (af .other .add bG cq).bind fun v2=>
 (aJ none aT v2).bind fun v3=>
 (ai none m v3).bind fun v4=>
 (bF .u64 v4).bind fun v5=>
 (af .other .lss v5 v1).bind fun v6=>
 (af .other .add bG cq).bind fun v7=>
 (af .other .add bG cq).bind fun v8=>
 (aJ none aT v8).bind fun v9=>
 (ai none m v9).bind fun v10=>
 (bF .u64 v10).bind fun v11=>
 (af .other .sub v11 v1).bind fun aV=>
 (bF .u32 aV).bind fun bL=>
 (aJ none aT v7).bind fun bM=>
 (aA none m bM bL).bind fun m15=>
 au v6 (
 (af .other .sub gj (.int .u64 1)).bind fun bQ=>
 ES x9 aT cn cq bo bG bQ (.int .u64 0) cq (.int .i64 0) m15 (I8 K)) (
 (bF .u32 gj).bind fun bV=>
 (aJ none bo bG).bind fun dU=>
 (aA none m15 dU bV).bind fun m19=>
 (af .other .sub bG (.int .i64 1)).bind fun v20=>
 BM x9 aT cn cq bo v20 m19 K):=by kernel_rfl
theorem Zc(x9 aT cn cq bo bG gj mo:AV)(m:ae)(K:KT):I8 K (.exit 7) (JJ x9 aT cn cq bo bG gj mo m) =
 (af .other .add bG cq).bind fun v1=>
 (aJ none aT v1).bind fun v2=>
 (ai none m v2).bind fun v3=>
 (bF .u32 mo).bind fun v4=>
 (af .other .add v3 v4).bind fun v5=>
 (aJ none aT v1).bind fun v6=>
 (aA none m v6 v5).bind fun m7=>
 (bF .u32 gj).bind fun v8=>
 (aJ none bo bG).bind fun v9=>
 (aA none m7 v9 v8).bind fun m10=>
 (af .other .sub bG (.int .i64 1)).bind fun v11=>
 BM x9 aT cn cq bo v11 m10 K:=by kernel_rfl
def JN(x6 x7:AV)(m:ae):St:=⟨[.any,.any,.any,.any,.any,.any,x6,x7,.any,.any,.any,.any,.any,.any,.any,.any,.any,.any,.any,.any,.any,.any,.any,.any,.any,.any,.any,.any,.any,.any,.any,.any,.any,.any,.any,.any,.any,.any,.any,.any,.any,.any,.any],m⟩
noncomputable def EV(x0 x1 x6 x7 x8:AV)(m:ae)(K:KT):OM:=bP (aq ab 136 (AP ab) (AC ab) (c1 (c1 (c2 (c1 (c2 (c2 (c2 (al f136))))))))) (ab.mask 136 (some 4)) ⟨[x0,x1,.any,.any,.any,.any,x6,x7,x8,.any,.any,.any,.any,.any,.any,.any,.any,.any,.any,.any,.any,.any,.any,.any,.any,.any,.any,.any,.any,.any,.any,.any,.any,.any,.any,.any,.any,.any,.any,.any,.any,.any,.any],m⟩ K
noncomputable abbrev Zm(K:KT):KT:=dQ (fun st=>aq ab 136 (AP ab) (AC ab) (c2 (c2 (c2 (c2 (al f136))))) st K) K
noncomputable abbrev Zn(K:KT):KT:=dK 0 (Zm K)
noncomputable abbrev Jb(K:KT):KT:=(Zn K)
theorem qca(a0 a1:AV)(m:ae):AC ab 136 [a0,a1] m =
 (aY false a0).bind fun v1=>
 (jM none 116 none (.int .u32 0) 4 m v1 v1).bind fun r2=>
 (aY false a0).bind fun v3=>
 (af .other .sub v3 (.int .i64 1)).bind fun v4=>
 EV a0 a1 r2.1 (.int .u64 0) v4 r2.2 (Jb (aN ab.P f136.results.toList)):=
(bW ab 136 [a0,a1] m (fn:=f136) (c:=al f136) qdX rfl).trans (by kernel_rfl)
theorem PJ(x0 x1 x6 x7 x8:AV)(m:ae)(K:KT):EV x0 x1 x6 x7 x8 m K =
 (af .other .geq x8 (.int .i64 0)).bind fun v1=>
 au v1 (
 (af .other .shl x7 (.int .u64 32)).bind fun v2=>
 (aJ none x0 x8).bind fun v3=>
 (ai none m v3).bind fun v4=>
 (bF .u64 v4).bind fun v5=>
 (af .other .or v2 v5).bind fun v6=>
 (bF .u64 x1).bind fun v7=>
 (af .other .quo v6 v7).bind fun v8=>
 (bF .u32 v8).bind fun v9=>
 (aJ none x6 x8).bind fun v10=>
 (aA none m v10 v9).bind fun m11=>
 (bF .u64 x1).bind fun aV=>
 (af .other .rem v6 aV).bind fun bL=>
 (af .other .sub x8 (.int .i64 1)).bind fun bM=>
 EV x0 x1 x6 bL bM m11 K) (
 K (.exit 0) (JN x6 x7 m)):=
(eu (ed _) _ _ _).trans (by kernel_rfl)
theorem Zo(x6 x7:AV)(m:ae):Jb (aN ab.P f136.results.toList) (.exit 0) (JN x6 x7 m) =
 (ao (AP ab) none m 124 [x6]).bind fun r1=>
 (bF .u32 x7).bind fun v2=>
 some ((.tup [r1.1,v2]),r1.2):=by kernel_rfl
theorem qcb(a0:AV)(m:ae):AC ab 137 [a0] m =
 (ao (AP ab) none m 140 [a0]).bind fun r1=>
 (af .other .sub (.int .i64 32) r1.1).bind fun v2=>
 some (v2,r1.2):=
(bW ab 137 [a0] m (fn:=f137) (c:=al f137) qdY rfl).trans (by kernel_rfl)
def JO(x5:AV)(m:ae):St:=⟨[.any,.any,.any,.any,.any,x5,.any,.any,.any,.any,.any,.any,.any,.any,.any,.any,.any,.any,.any,.any,.any,.any,.any,.any,.any,.any,.any,.any,.any,.any,.any,.any,.any,.any,.any,.any,.any,.any,.any,.any],m⟩
noncomputable def EW(x1 x5 cq bo bG:AV)(m:ae)(K:KT):OM:=bP (aq ab 138 (AP ab) (AC ab) (c1 (c1 (c2 (c1 (c2 (c2 (al f138)))))))) (ab.mask 138 (some 3)) ⟨[.any,x1,.any,.any,.any,x5,.any,.any,.any,.any,.any,.any,cq,bo,bG,.any,.any,.any,.any,.any,.any,.any,.any,.any,.any,.any,.any,.any,.any,.any,.any,.any,.any,.any,.any,.any,.any,.any,.any,.any],m⟩ K
noncomputable abbrev Zp(K:KT):KT:=dQ (fun st=>aq ab 138 (AP ab) (AC ab) (c2 (c2 (c2 (al f138)))) st K) K
noncomputable abbrev Zq(K:KT):KT:=dK 0 (Zp K)
noncomputable abbrev O4(K:KT):KT:=(Zq K)
theorem qcc(a0 a1:AV)(m:ae):AC ab 138 [a0,a1] m =
 (aY false a0).bind fun v1=>
 (af .other .add v1 (.int .i64 1)).bind fun v2=>
 (jM none 116 none (.int .u32 0) 4 m v2 v2).bind fun r3=>
 (aY false a0).bind fun v4=>
 EW a1 r3.1 a0 v4 (.int .i64 0) r3.2 (O4 (aN ab.P f138.results.toList)):=
(bW ab 138 [a0,a1] m (fn:=f138) (c:=al f138) qdZ rfl).trans (by kernel_rfl)
theorem PL(x1 x5 cq bo bG:AV)(m:ae)(K:KT):EW x1 x5 cq bo bG m K =
 (af .other .lss bG bo).bind fun v1=>
 au v1 (
 (aJ none cq bG).bind fun v2=>
 (ai none m v2).bind fun v3=>
 (aJ none x5 bG).bind fun v4=>
 (ai none m v4).bind fun v5=>
 (af .other .shl v3 x1).bind fun v6=>
 (af .other .or v5 v6).bind fun v7=>
 (aJ none x5 bG).bind fun v8=>
 (aA none m v8 v7).bind fun m9=>
 (af .other .add bG (.int .i64 1)).bind fun v10=>
 (bF .u64 v3).bind fun v11=>
 (af .other .shl v11 x1).bind fun aV=>
 (af .other .shr aV (.int .u64 32)).bind fun bL=>
 (bF .u32 bL).bind fun bM=>
 (aJ none x5 v10).bind fun bz=>
 (aA none m9 bz bM).bind fun m16=>
 (af .other .add bG (.int .i64 1)).bind fun bV=>
 EW x1 x5 cq bo bV m16 K) (
 K (.exit 0) (JO x5 m)):=
(eu (ed _) _ _ _).trans (by kernel_rfl)
theorem Zr(x5:AV)(m:ae):O4 (aN ab.P f138.results.toList) (.exit 0) (JO x5 m) =
 some (x5,m):=by kernel_rfl
theorem Qp(a0:AV)(m:ae):AC ab 139 [a0] m =
 (ao (AP ab) none m 124 [a0]).bind fun r1=>
 (aY false r1.1).bind fun v2=>
 (af .other .eql v2 (.int .i64 0)).bind fun v3=>
 au v3 (
 some ((.int .i64 0),r1.2)) (
 (aY false r1.1).bind fun v4=>
 (af .other .sub v4 (.int .i64 1)).bind fun v5=>
 (af .other .mul (.int .i64 32) v5).bind fun v6=>
 (aY false r1.1).bind fun v7=>
 (af .other .sub v7 (.int .i64 1)).bind fun v8=>
 (aJ none r1.1 v8).bind fun v9=>
 (ai none r1.2 v9).bind fun v10=>
 (ao (AP ab) none r1.2 140 [v10]).bind fun iH=>
 (af .other .add v6 iH.1).bind fun aV=>
 some (aV,iH.2)):=
(bW ab 139 [a0] m (fn:=f139) (c:=al f139) qd0 rfl).trans (by kernel_rfl)
theorem qcd(a0:AV)(m:ae):AC ab 140 [a0] m =
 (af .other .geq a0 (.int .u32 65536)).bind fun v1=>
 au v1 (
 (af .other .shr a0 (.int .u64 16)).bind fun v2=>
 (af .other .geq v2 (.int .u32 256)).bind fun v3=>
 au v3 (
 (af .other .shr v2 (.int .u64 8)).bind fun v4=>
 (af .other .add (.int .i64 16) (.int .i64 8)).bind fun v5=>
 (bF .u8 v4).bind fun v6=>
 (sy (.str ⟨⟨[0,1,2,2,3,3,3,3,4,4,4,4,4,4,4,4,5,5,5,5,5,5,5,5,5,5,5,5,5,5,5,5,6,6,6,6,6,6,6,6,6,6,6,6,6,6,6,6,6,6,6,6,6,6,6,6,6,6,6,6,6,6,6,6,7,7,7,7,7,7,7,7,7,7,7,7,7,7,7,7,7,7,7,7,7,7,7,7,7,7,7,7,7,7,7,7,7,7,7,7,7,7,7,7,7,7,7,7,7,7,7,7,7,7,7,7,7,7,7,7,7,7,7,7,7,7,7,7,8,8,8,8,8,8,8,8,8,8,8,8,8,8,8,8,8,8,8,8,8,8,8,8,8,8,8,8,8,8,8,8,8,8,8,8,8,8,8,8,8,8,8,8,8,8,8,8,8,8,8,8,8,8,8,8,8,8,8,8,8,8,8,8,8,8,8,8,8,8,8,8,8,8,8,8,8,8,8,8,8,8,8,8,8,8,8,8,8,8,8,8,8,8,8,8,8,8,8,8,8,8,8,8,8,8,8,8,8,8,8,8,8,8,8,8,8,8,8,8,8,8,8,8,8,8,8,8]⟩⟩) v6).bind fun v7=>
 (bF .i64 v7).bind fun v8=>
 (af .other .add v5 v8).bind fun v9=>
 some (v9,m)) (
 (bF .u8 v2).bind fun v10=>
 (sy (.str ⟨⟨[0,1,2,2,3,3,3,3,4,4,4,4,4,4,4,4,5,5,5,5,5,5,5,5,5,5,5,5,5,5,5,5,6,6,6,6,6,6,6,6,6,6,6,6,6,6,6,6,6,6,6,6,6,6,6,6,6,6,6,6,6,6,6,6,7,7,7,7,7,7,7,7,7,7,7,7,7,7,7,7,7,7,7,7,7,7,7,7,7,7,7,7,7,7,7,7,7,7,7,7,7,7,7,7,7,7,7,7,7,7,7,7,7,7,7,7,7,7,7,7,7,7,7,7,7,7,7,7,8,8,8,8,8,8,8,8,8,8,8,8,8,8,8,8,8,8,8,8,8,8,8,8,8,8,8,8,8,8,8,8,8,8,8,8,8,8,8,8,8,8,8,8,8,8,8,8,8,8,8,8,8,8,8,8,8,8,8,8,8,8,8,8,8,8,8,8,8,8,8,8,8,8,8,8,8,8,8,8,8,8,8,8,8,8,8,8,8,8,8,8,8,8,8,8,8,8,8,8,8,8,8,8,8,8,8,8,8,8,8,8,8,8,8,8,8,8,8,8,8,8,8,8,8,8,8,8]⟩⟩) v10).bind fun v11=>
 (bF .i64 v11).bind fun aV=>
 (af .other .add (.int .i64 16) aV).bind fun bL=>
 some (bL,m))) (
 (af .other .geq a0 (.int .u32 256)).bind fun bM=>
 au bM (
 (af .other .shr a0 (.int .u64 8)).bind fun bz=>
 (af .other .add (.int .i64 0) (.int .i64 8)).bind fun bQ=>
 (bF .u8 bz).bind fun bV=>
 (sy (.str ⟨⟨[0,1,2,2,3,3,3,3,4,4,4,4,4,4,4,4,5,5,5,5,5,5,5,5,5,5,5,5,5,5,5,5,6,6,6,6,6,6,6,6,6,6,6,6,6,6,6,6,6,6,6,6,6,6,6,6,6,6,6,6,6,6,6,6,7,7,7,7,7,7,7,7,7,7,7,7,7,7,7,7,7,7,7,7,7,7,7,7,7,7,7,7,7,7,7,7,7,7,7,7,7,7,7,7,7,7,7,7,7,7,7,7,7,7,7,7,7,7,7,7,7,7,7,7,7,7,7,7,8,8,8,8,8,8,8,8,8,8,8,8,8,8,8,8,8,8,8,8,8,8,8,8,8,8,8,8,8,8,8,8,8,8,8,8,8,8,8,8,8,8,8,8,8,8,8,8,8,8,8,8,8,8,8,8,8,8,8,8,8,8,8,8,8,8,8,8,8,8,8,8,8,8,8,8,8,8,8,8,8,8,8,8,8,8,8,8,8,8,8,8,8,8,8,8,8,8,8,8,8,8,8,8,8,8,8,8,8,8,8,8,8,8,8,8,8,8,8,8,8,8,8,8,8,8,8,8]⟩⟩) bV).bind fun dU=>
 (bF .i64 dU).bind fun dL=>
 (af .other .add bQ dL).bind fun v20=>
 some (v20,m)) (
 (bF .u8 a0).bind fun eg=>
 (sy (.str ⟨⟨[0,1,2,2,3,3,3,3,4,4,4,4,4,4,4,4,5,5,5,5,5,5,5,5,5,5,5,5,5,5,5,5,6,6,6,6,6,6,6,6,6,6,6,6,6,6,6,6,6,6,6,6,6,6,6,6,6,6,6,6,6,6,6,6,7,7,7,7,7,7,7,7,7,7,7,7,7,7,7,7,7,7,7,7,7,7,7,7,7,7,7,7,7,7,7,7,7,7,7,7,7,7,7,7,7,7,7,7,7,7,7,7,7,7,7,7,7,7,7,7,7,7,7,7,7,7,7,7,8,8,8,8,8,8,8,8,8,8,8,8,8,8,8,8,8,8,8,8,8,8,8,8,8,8,8,8,8,8,8,8,8,8,8,8,8,8,8,8,8,8,8,8,8,8,8,8,8,8,8,8,8,8,8,8,8,8,8,8,8,8,8,8,8,8,8,8,8,8,8,8,8,8,8,8,8,8,8,8,8,8,8,8,8,8,8,8,8,8,8,8,8,8,8,8,8,8,8,8,8,8,8,8,8,8,8,8,8,8,8,8,8,8,8,8,8,8,8,8,8,8,8,8,8,8,8,8]⟩⟩) eg).bind fun dV=>
 (bF .i64 dV).bind fun fS=>
 (af .other .add (.int .i64 0) fS).bind fun gD=>
 some (gD,m))):=
(bW ab 140 [a0] m (fn:=f140) (c:=al f140) qd1 rfl).trans (by kernel_rfl)
end Go.Ab
namespace Go.Ab
theorem qkr(x:Int):IntKind.wrap .i64 x=if x%18446744073709551616≥9223372036854775808 then x%18446744073709551616-18446744073709551616 else x%18446744073709551616:=by
 show (if (true&&decide (x%18446744073709551616≥9223372036854775808))=true then x%18446744073709551616-18446744073709551616 else x%18446744073709551616)=_
 simp
theorem Xt(x:Int):IntKind.wrap .u64 x=x%18446744073709551616:=by
 rfl
theorem xg(x:Int):IntKind.wrap .u32 x=x%4294967296:=by
 rfl
theorem km{x:Int}(h:-9223372036854775808<=x)(h':x<9223372036854775808):IntKind.wrap .i64 x=x:=by
 rw[qkr];split<;>omega
theorem jf{x:Int}(h:0<=x)(h':x<18446744073709551616):IntKind.wrap .u64 x=x:=by
 rw[Xt];omega
theorem zn{x:Int}(h:0<=x)(h':x<4294967296):IntKind.wrap .u32 x=x:=by
 rw[xg];omega
structure NV where
 z:Bool
 o:Own
 ds:List Nat
def dg(d:Nat):AV:=.int .u32 d
def NV.av(x:NV):AV:=.lst none x.z x.o (x.ds.map dg)
section
variable {R:Type}
theorem pa(tk:TK)(k:IntKind)(a b:Int):af tk .gtr (.int k a) (.int k b)=some (.bool (decide (a>b))):=by cases tk<;>simp[af,qS]
theorem gw(tk:TK)(k:IntKind)(a b:Int):af tk .lss (.int k a) (.int k b)=some (.bool (decide (a<b))):=by cases tk<;>simp[af,qS]
theorem o9(tk:TK)(k:IntKind)(a b:Int):af tk .geq (.int k a) (.int k b)=some (.bool (decide (a≥b))):=by cases tk<;>simp[af,qS]
theorem F5(tk:TK)(k:IntKind)(a b:Int):af tk .leq (.int k a) (.int k b)=some (.bool (decide (a<=b))):=by cases tk<;>simp[af,qS]
theorem iY(tk:TK)(k:IntKind)(a b:Int):af tk .eql (.int k a) (.int k b)=some (.bool (decide (a=b))):=by cases tk<;>simp[af,qS]<;>rfl
theorem iL(tk:TK)(k:IntKind)(a b:Int):af tk .neq (.int k a) (.int k b)=some (.bool (decide (a≠b))):=by cases tk<;>simp[af,qS]<;>by_cases h:a=b<;>simp[h]
theorem oF(tk:TK)(k:IntKind)(a b:Int):af tk .add (.int k a) (.int k b)=some (.int k (k.wrap (a+b))):=by cases tk<;>simp[af,qS]
theorem qu(tk:TK)(k:IntKind)(a b:Int):af tk .sub (.int k a) (.int k b)=some (.int k (k.wrap (a-b))):=by cases tk<;>simp[af,qS]
theorem Ce(tk:TK)(k:IntKind)(a b:Int):af tk .mul (.int k a) (.int k b)=some (.int k (k.wrap (a*b))):=by cases tk<;>simp[af,qS]
theorem Hm(sh:Sh)(z:Bool)(o:Own)(es:List AV):aY false (.lst sh z o es)=some (.int .i64 es.length):=rfl
theorem aw(p:Prop)[Decidable p](x y:Option R):au (.bool (decide p)) x y=if p then x else y:=by
 by_cases h:p<;>simp[au,h]
theorem tQ{z:Bool}{o:Own}{ds:List Nat}{k:IntKind}{i:Int}(h:0<=i)(h':i<ds.length):aJ none (.lst none z o (ds.map dg)) (.int k i)=some (.vptr [dg (ds.getD i.toNat 0)]):=by
 have hi:i.toNat<ds.length:=by omega
 simp[aJ,h,hi,AV.cells,dg,bA]
theorem qd(m:ae)(x:AV):ai none m (.vptr [x])=some x:=rfl
theorem NN{z:Bool}{o:Own}{ds:List Nat}{k:IntKind}{i:Int}(h:0<=i)(h':i<=ds.length):nS none (.lst none z o (ds.map dg)) none (some (.int k i)) none=some (.lst none z .no ((ds.take i.toNat).map dg)):=by
 simp[nS,qk,jI,h,h',List.map_take]
end
def Own.fr:Own->Own
 | .tok ..=>.no
 | o=>o
def NV.fr(x:NV):NV:=⟨x.z,x.o.fr,x.ds⟩
def Fz(v v':AV):Prop:=∀m,frz m eo v=some (v',[])
theorem dN(x:NV):Fz x.av x.fr.av:=by
 intro m;obtain ⟨z,o,ds⟩:=x;cases o<;>rfl
theorem eK(k:IntKind)(n:Int):Fz (.int k n) (.int k n):=fun _=>rfl
theorem qU(b:Bool):Fz (.bool b) (.bool b):=fun _=>rfl
section
variable {cp:Nat->List AV->Option AV} {d:Option Nat} {m:ae} {g:Nat}
theorem DH:ao cp d m g []=(cp g []).map fun v=>(v,m):=by
 simp[ao,bJ,fg]
theorem dW{a a':AV}(ha:Fz a a'):ao cp d m g [a]=(cp g [a']).map fun v=>(v,m):=by
 simp[ao,bJ,fg,ha m]
theorem gO{a a' b b':AV}(ha:Fz a a')(hb:Fz b b'):ao cp d m g [a,b]=(cp g [a',b']).map fun v=>(v,m):=by
 simp[ao,bJ,fg,ha m,hb m]
theorem yV{a a' b b' c c':AV}(ha:Fz a a')(hb:Fz b b')(hc:Fz c c'):ao cp d m g [a,b,c]=(cp g [a',b',c']).map fun v=>(v,m):=by
 simp[ao,bJ,fg,ha m,hb m,hc m]
theorem qis{a a' b b' c c' e e':AV}(ha:Fz a a')(hb:Fz b b')(hc:Fz c c')(he:Fz e e'):ao cp d m g [a,b,c,e]=(cp g [a',b',c',e']).map fun v=>(v,m):=by
 simp[ao,bJ,fg,ha m,hb m,hc m,he m]
end
theorem jE{C:Cfg}{f:Nat}{args:List AV}{v v':AV}{m:ae}{l:List Nat}(h:AC C f args []=some (v,m))(hf:frz m eo v=some (v',l))(hv:(mh args||gV v')=true):AP C f args=some v':=by
 unfold AP gv;rw[h];simp only[aa,hf,aj hv]
theorem pB(x:NV):gV x.av=true:=rfl
def pF(m:ae)(n:Nat):ae:=m++[some (.tok n 1)]
theorem UB{e b:Nat}{z:AV}{m:ae}{c:Int}(h:0<c)(h':c*b<=281474976710656)(h2:c<=9223372036854775807):jM none e none z b m (.int .i64 0) (.int .i64 c)=some (.lst none false (.tok m.length e) [],pF m 0):=by
 have h3:¬ (0:Int)=c:=by omega
 have h4:0<=c:=by omega
 simp[jM,h3,h4,h',h2,ak,pF,Sh.size]
theorem F3{e b:Nat}{m:ae}{es:List AV}{z:Bool}{o:Own}{y:AV}(h:(es.length+1)*b<=iU):eG none false e none b (pF m es.length) (.lst none false (.tok m.length e) es) (.lst none z o [y])=some (.lst none false (.tok m.length e) (es++[y]),pF m (es.length+1)):=by
 simp[eG,pF,ae.get,Sh.size,h]
theorem KC(k:IntKind)(n:Int):iq none [.int k n]=some (.lst none false .full [.int k n]):=rfl
theorem mH(k k':IntKind)(n:Int):bF k (.int k' n)=some (.int k (k.wrap n)):=rfl
theorem qeY(tk:TK)(k k':IntKind)(a b:Int)(h:0<=b):af tk .shr (.int k a) (.int k' b)=some (.int k (a.fdiv (2^(min b.toNat k.bits)))):=by
 have:¬ b<0:=by omega
 cases tk<;>simp[af,sU,this]
theorem Cf(tk:TK)(k':IntKind)(a:Int)(h:0<=a):af tk .shr (.int .u64 a) (.int k' 32)=some (.int .u64 (a/4294967296)):=by
 rw[qeY tk .u64 k' a 32 (by omega)];show some (AV.int .u64 (a.fdiv 4294967296))=_;rw[Int.fdiv_eq_ediv_of_nonneg _ (by omega)]
def nA(m:ae)(ds:List Nat):ae:=m++[some (.obj false (ds.map dg))]
theorem UA{e b:Nat}{m:ae}{n:Nat}(h':n*b<=281474976710656)(h2:n<=9223372036854775807):jM none e none (.int .u32 0) b m (.int .i64 n) (.int .i64 n)=some (.arr m.length 0 n none,nA m (List.replicate n 0)):=by
 have h3:(n:Int)*b<=281474976710656:=by
  have:=Int.ofNat_le.2 h';rw[l5] at this;exact this
 have h4:(n:Int)<=9223372036854775807:=by omega
 have h5:(0:Int)<=n:=by omega
 simp only[jM,h3,h4,h5,ak,nA,ud,Int.le_refl,and_self,eC,nG,List.map_replicate]
 rfl
theorem MT(m:ae)(ds:List Nat):(nA m ds).obj? m.length=some (false,ds.map dg):=by
 simp[nA,ae.obj?,ae.get]
theorem kP{nm n:Nat}{k:IntKind}{i:Nat}(h:i<n):aJ none (.arr nm 0 n none) (.int k i)=some (.ptr nm i):=by
 have:(i:Int)<n:=by omega
 simp[aJ,this,Sh.size]
theorem qhG{m:ae}{ds:List Nat}{i:Nat}(h:i<ds.length):ai none (nA m ds) (.ptr m.length i)=some (dg (ds.getD i 0)):=by
 simp[ai,MT,jU,bA,h]
theorem Bc{m:ae}{ds:List Nat}{i v:Nat}(h:i<ds.length):aA none (nA m ds) (.ptr m.length i) (.int .u32 v)=some (nA m (ds.set i v)):=by
 have h1:i+1<=ds.length:=h;simp only[aA,MT,aa,Sh.size,gu,h1,eC,eP,fZ,AV.cells];congr 1;simp only[nA,ka,aR,aX];rw[qK _ _ (aW _)];simp only[oE,bk];congr 4;rw[List.map_set,List.set_eq_take_append_cons_drop];simp[h,dg,List.map_take,List.map_drop]
theorem MH(m:ae)(k:Nat):∀ds:List Nat,bJ (frz m (k+1)) (ds.map dg)=some (ds.map dg,[])
 | []=>rfl
 | d::ds=>by
  have:frz m (k+1) (dg d)=some (dg d,[]):=rfl;simp[bJ,this,MH m k ds]
theorem Nh:∀ds:List Nat,pC (ds.map dg)=true
 | []=>rfl
 | d::ds=>by
  have:pl (dg d)=true:=rfl;simp[pC,this,Nh ds]
theorem qf6(m:ae)(ds:List Nat):frz (nA m ds) eo (.arr m.length 0 ds.length none)=some (.lst none false .no (ds.map dg),[m.length]):=by
 have h1:((ds.map dg).all fZ)=true:=by simp[List.all_map,dg,fZ]
 show ((nA m ds).obj? m.length).bind _=_;rw[MT];simp only[aa,Sh.size,gu,aL,qo,aW,decide_true,mZ,Bool.and_self,eC,tg,nY (by simp:(ds.map dg).length<=ds.length)];rw[MH];simp only[aa,h1,Nh,Bool.and_self,eC,n7];rw[nY (by simp)]
theorem qit{cp:Nat->List AV->Option AV}{m:ae}{g:Nat}{ds:List Nat}:ao cp none (nA m ds) g [.arr m.length 0 ds.length none]=(cp g [.lst none false .no (ds.map dg)]).map fun v=>(v,m++[none]):=by
 simp only[ao,bJ,qf6,aa,fg,Option.isSome_none,Bool.false_and,bN,BW,List.foldl_nil];simp[nA]
theorem Rz(tk:TK)(k':IntKind)(a:Nat)(h:a<4294967296):af tk .shl (.int .u64 a) (.int k' 32)=some (.int .u64 (a*4294967296:Nat)):=by
 have e:af tk .shl (.int .u64 a) (.int k' 32)=some (.int .u64 (IntKind.wrap .u64 ((a:Int)*4294967296))):=by cases tk<;>rfl
 rw[e,jf (by omega) (by omega)]
 rfl
theorem qeX(tk:TK)(lo hi:Nat)(h:lo<4294967296)(h':hi<4294967296):af tk .or (.int .u64 lo) (.int .u64 (hi*4294967296:Nat))=some (.int .u64 (lo+hi*4294967296:Nat)):=by
 have e:af tk .or (.int .u64 lo) (.int .u64 (hi*4294967296:Nat))=some (.int .u64 (IntKind.wrap .u64 ((BitVec.ofInt 64 lo ||| BitVec.ofInt 64 (hi*4294967296:Nat)).toNat:Nat))):=by cases tk<;>rfl
 have e2:(BitVec.ofInt 64 (lo:Int) ||| BitVec.ofInt 64 ((hi*4294967296:Nat):Int)).toNat=lo+hi*4294967296:=by
  rw[BitVec.toNat_or,xl,xl];have h1:(((lo:Nat):Int)%((2^64:Nat):Int)).toNat=lo:=by omega
  have h2:(((hi*4294967296:Nat):Int)%((2^64:Nat):Int)).toNat=hi*4294967296:=by omega
  rw[h1,h2,Nat.or_comm];have:=Nat.two_pow_add_eq_or_of_lt (i:=32) (b:=lo) (by omega) hi;rw[show hi*4294967296=2^32*hi by omega,<- this];omega
 rw[e,e2,jf (by omega) (by omega)]
end Go.Ab
namespace Go.Ab
def lW(ds:List Nat):Nat->Nat
 | 0=>0
 | n+1=>if ds.getD n 0=0 then lW ds n else n+1
theorem DY(ds:List Nat):∀n,lW ds n<=n
 | 0=>aW _
 | n+1=>by
  rw[lW]
  split
  .exact Nat.le_succ_of_le (DY ds n)
  .exact aW _
def tr(ds:List Nat):List Nat:=ds.take (lW ds ds.length)
theorem Bj(a:List Nat):(tr a).length<=a.length:=by simp only[tr,oA];omega
def Dg(a:List Nat):Prop:=∀i,a.getD i 0<4294967296
theorem Dg.take{a:List Nat}(h:Dg a)(n:Nat):Dg (a.take n):=by
 intro i;have:=h i;simp only[bA,qJ] at this ⊢
 split
 .exact this
 .simp
theorem Dg.set{a:List Nat}(h:Dg a)(n v:Nat)(hv:v<4294967296):Dg (a.set n v):=by
 intro i;have:=h i;simp only[bA,zK] at this ⊢
 split
 .split
  .exact hv
  .simp
 .exact this
theorem sY{a:List Nat}(h:Dg a):Dg (tr a):=h.take _
theorem xW{l:List Nat}{i:Nat}(h:¬ (i:Int)<(l.length:Int)):l.getD i 0=0:=by
 rw[bA,iC (by omega)];rfl
theorem xO:Dg []:=by intro i;simp
theorem mJ{d:Nat}{ds:List Nat}:Dg (d::ds)↔d<4294967296/\Dg ds:=by
 constructor
 .intro h;exact ⟨h 0,fun i=>h (i+1)⟩
 .intro h i
  cases i with
  | zero=>exact h.1
  | succ i=>exact h.2 i
theorem xN{a b:List Nat}(ha:Dg a)(hb:Dg b):Dg (a++b):=by
 induction a with
 | nil=>exact hb
 | cons d a ih=>exact mJ.2 ⟨(mJ.1 ha).1,ih (mJ.1 ha).2⟩
theorem uD{d:Nat}(h:d<4294967296):Dg [d]:=mJ.2 ⟨h,xO⟩
theorem xP(n:Nat):Dg (List.replicate n 0):=by
 induction n with
 | zero=>exact xO
 | succ n ih=>exact mJ.2 ⟨by decide,ih⟩
theorem uG{l:List Nat}{i j v:Nat}(h:i≠j):(l.set i v).getD j 0=l.getD j 0:=by
 simp only[bA];rw[dM h]
theorem qV{l:List Nat}{i v:Nat}(h:i<l.length):(l.set i v).getD i 0=v:=by
 simp only[bA];rw[jF h];rfl
theorem GG(n i:Nat):(List.replicate n 0).getD i 0=0:=by
 simp only[bA,ui];split<;>rfl
theorem AS(p b c:Nat):p*c=p*(c%b)+p*b*(c/b):=by
 rw[gQ,<- fL,Nat.mod_add_div]
theorem Vv(p b x s:Nat)(h:s<=x+b):p*(x+b-s)+p*s=p*x+p*b:=by
 rw[<- fL,Nat.sub_add_cancel h,fL]
theorem HK(p x s:Nat)(h:s<=x):p*(x-s)+p*s=p*x:=by
 rw[<- fL,Nat.sub_add_cancel h]
def val:List Nat->Nat
 | []=>0
 | d::ds=>d+4294967296*val ds
def an(n:Nat):List Nat:=if h:n=0 then [] else n%4294967296::an (n/4294967296)
 termination_by n
 decreasing_by exact Nat.div_lt_self (by omega) (by omega)
theorem jK:an 0=[]:=by rw[an];rfl
theorem xQ{n:Nat}(h:n≠0):an n=n%4294967296::an (n/4294967296):=by rw[an,dif_neg h]
theorem fG(n:Nat):val (an n)=n:=by
 induction n using Nat.strongRecOn with
 | ind n ih=>
  by_cases h:n=0
  .subst h;rw[jK];rfl
  .rw[xQ h,val,ih _ (Nat.div_lt_self (by omega) (by omega))];omega
theorem eU(n:Nat):Dg (an n):=by
 induction n using Nat.strongRecOn with
 | ind n ih=>
  by_cases h:n=0
  .subst h;rw[jK];exact xO
  .rw[xQ h];exact mJ.2 ⟨jx _ (by omega),ih _ (Nat.div_lt_self (by omega) (by omega))⟩
theorem tv{k:Nat}:∀{n:Nat},n<4294967296^k->(an n).length<=k:=by
 induction k with
 | zero=>
   intro n h;have:n=0:=by simpa using h
   subst this;rw[jK];exact aW _
 | succ k ih=>
  intro n h
  by_cases h0:n=0
  .subst h0;rw[jK];exact jH _
  .rw[xQ h0,aR];refine Nat.succ_le_succ (ih ?_);rw[jS] at h;exact Nat.div_lt_of_lt_mul (by rw[en];exact h)
theorem mY{ds:List Nat}(h:Dg ds):val ds<4294967296^ds.length:=by
 induction ds with
 | nil=>exact Nat.one_pos
 | cons d ds ih=>
  have ih:=ih (mJ.1 h).2;have hd:=(mJ.1 h).1;rw[val,aR,jS];omega
theorem R9{ds:List Nat}(h:Dg ds):(an (val ds)).length<=ds.length:=tv (mY h)
theorem D9{n:Nat}:an n=[]↔n=0:=by
 constructor
 .intro h;have:=fG n;rw[h] at this;exact this.symm
 .intro h;subst h;exact jK
theorem qfD{a b:Nat}(h:an a=an b):a=b:=by
 have:=fE val h
 rwa [fG,fG] at this
theorem WX(d:Nat)(ds:List Nat):∀n,lW (d::ds) (n+1)=if lW ds n=0 then (if d=0 then 0 else 1) else lW ds n+1
 | 0=>by
  simp only[lW,rK,eC]
 | n+1=>by
  rw[lW,WX d ds n];simp only[zI];rw[lW]
  by_cases h:ds.getD n 0=0
  .rw[aj h,aj h]
  .rw[ag h,ag h,ag (by omega)]
theorem qj1(d:Nat)(ds:List Nat):tr (d::ds)=if tr ds=[] then (if d=0 then [] else [d]) else d::tr ds:=by
 have h0:tr ds=[]↔lW ds ds.length=0:=by
  have:=DY ds ds.length;rw[tr,<- List.length_eq_zero_iff,oA];omega
 rw[tr,aR,WX]
 by_cases h:lW ds ds.length=0
 .rw[aj h,aj (h0.2 h)];split<;>rfl
 .rw[ag h,ag (fun e=>h (h0.1 e))]
  rfl
theorem ll{ds:List Nat}(h:Dg ds):tr ds=an (val ds):=by
 induction ds with
 | nil=>rw[val,jK];rfl
 | cons d ds ih=>
  have hd:=(mJ.1 h).1;rw[qj1,ih (mJ.1 h).2,val]
  by_cases h0:val ds=0
  .rw[aj (D9.2 h0),h0]
   split
   .subst d;exact jK.symm
   .rw[xQ (by omega),show (d+4294967296*0)%4294967296=d by omega,show (d+4294967296*0)/4294967296=0 by omega,jK]
  .rw[ag (fun e=>h0 (D9.1 e)),xQ (n:=d+4294967296*val ds) (by omega),show (d+4294967296*val ds)%4294967296=d by omega,show (d+4294967296*val ds)/4294967296=val ds by omega]
theorem xe{ds:List Nat}(h:Dg ds):val (tr ds)=val ds:=by rw[ll h,fG]
theorem xd(a b:List Nat):val (a++b)=val a+4294967296^a.length*val b:=by
 induction a with
 | nil=>simp[val]
 | cons d a ih=>
  rw[bm,val,val,ih,aR,jS,fL,my,en (4294967296^a.length) 4294967296,gQ]
theorem Ea:∀(l:List Nat) (i v:Nat),i<l.length->val (l.set i v)+4294967296^i*l.getD i 0=val l+4294967296^i*v
 | [],i,v,h=>by simp at h
 | d::l,0,v,h=>by simp[val];omega
 | d::l,i+1,v,h=>by
  have ih:=Ea l i v (by simpa using h);simp only[bH,val,zI,jS];rw[en (4294967296^i) 4294967296,gQ,gQ];omega
def vs(a:List Nat)(i:Nat):Nat:=val (a.take i)
theorem rC(a:List Nat):vs a 0=0:=rfl
theorem iW{a:List Nat}{i:Nat}(h:a.length<=i):vs a i=val a:=by rw[vs,nY h]
theorem ju(a:List Nat)(i:Nat):vs a (i+1)=vs a i+4294967296^i*a.getD i 0:=by
 by_cases h:i<a.length
 .rw[vs,Fk h,xd,oA,ur (by omega),bA,jR h,vs];simp[val]
 .rw[iW (by omega),iW (by omega),bA,iC (by omega)];simp
theorem xf{a:List Nat}(h:Dg a)(i:Nat):vs a i<4294967296^i:=by
 have h1:=mY (h.take i);refine rQ h1 (qp (by omega) ?_);rw[oA];omega
theorem It(n:Nat):val (List.replicate n 0)=0:=by
 induction n with
 | zero=>rfl
 | succ n ih=>rw[zP,val,ih]
def mG(a b:List Nat):Nat->Int
 | 0=>0
 | n+1=>if a.getD n 0<b.getD n 0 then -1 else if a.getD n 0>b.getD n 0 then 1 else mG a b n
def uC(a b:List Nat):Int:=if a.length<b.length then -1 else if a.length>b.length then 1 else mG a b a.length
def gS(a b:Nat):Int:=if a<b then -1 else if a>b then 1 else 0
theorem RQ{a b:List Nat}(ha:Dg a)(hb:Dg b):∀n,mG a b n=gS (vs a n) (vs b n)
 | 0=>by simp[mG,rC,gS]
 | n+1=>by
  have ih:=RQ ha hb n;have h1:=xf ha n;have h2:=xf hb n;rw[mG,ju,ju,ih];generalize 4294967296^n=p at *;generalize a.getD n 0=x;generalize b.getD n 0=y;unfold gS
  by_cases h:x<y
  .have:p*(x+1)<=p*y:=kU _ h;rw[fL] at this;rw[aj h,aj (by omega)]
  .by_cases h':x>y
   .have:p*(y+1)<=p*x:=kU _ h';rw[fL] at this;rw[ag h,aj h',ag (by omega),aj (by omega)]
   .have:x=y:=by omega
    subst this;rw[ag h,ag h'];simp only[Nat.add_lt_add_iff_right,gt_iff_lt]
theorem Gl{n k:Nat}(h:k<(an n).length):4294967296^k<=n:=by
 apply jv;intro hn;have:=tv (Nat.lt_of_not_le hn);omega
theorem RP(a b:Nat):uC (an a) (an b)=gS a b:=by
 have ha:=mY (eU a);have hb:=mY (eU b);rw[fG] at ha hb;unfold uC
 by_cases h:(an a).length<(an b).length
 .have:=Gl h;rw[aj h,gS,aj (by omega)]
 .rw[ag h]
  by_cases h':(an a).length>(an b).length
  .have:=Gl h';rw[aj h',gS,ag (by omega),aj (by omega)]
  .rw[ag h',RQ (eU a) (eU b),iW (aW _),iW (by omega),fG,fG]
theorem qfi{a b:List Nat}(ha:Dg a)(hb:Dg b):uC (tr a) (tr b)=gS (val a) (val b):=by rw[ll ha,ll hb,RP]
def dR(a b:List Nat):Nat->List Nat×Nat
 | 0=>([],0)
 | i+1=>((dR a b i).1++[((dR a b i).2+a.getD i 0+b.getD i 0)%4294967296],((dR a b i).2+a.getD i 0+b.getD i 0)/4294967296)
theorem vN(a b:List Nat):∀i,(dR a b i).1.length=i
 | 0=>rfl
 | i+1=>by simp[dR,vN a b i]
theorem xE{a b:List Nat}(ha:Dg a)(hb:Dg b):∀i,(dR a b i).2<=1
 | 0=>by simp[dR]
 | i+1=>by
  have:=xE ha hb i;have h1:=ha i;have h2:=hb i;simp only[dR];omega
theorem Ku(a b:List Nat):∀i,Dg (dR a b i).1
 | 0=>xO
 | i+1=>xN (Ku a b i) (uD (jx _ (by omega)))
theorem Kv(a b:List Nat):∀i,val (dR a b i).1+4294967296^i*(dR a b i).2=vs a i+vs b i
 | 0=>by simp[dR,val,rC]
 | i+1=>by
  have ih:=Kv a b i;simp only[dR,xd,vN,val,ju,jS];have h1:=AS (4294967296^i) 4294967296 ((dR a b i).2+a.getD i 0+b.getD i 0);generalize hs:(dR a b i).2+a.getD i 0+b.getD i 0=s at *;rw[<- hs,fL,fL,hs] at h1;rw[mA,jo];omega
def Ca(a b:List Nat):List Nat:=tr ((dR a b a.length).1++[(dR a b a.length).2])
def zW(a b:List Nat):List Nat:=if a.length<b.length then Ca b a else Ca a b
theorem Ro{a b:List Nat}(ha:Dg a)(hb:Dg b)(h:b.length<=a.length):Ca a b=an (val a+val b):=by
 have hc:=xE ha hb a.length;rw[Ca,ll (xN (Ku _ _ _) (uD (by omega))),xd,vN];have:=Kv a b a.length;rw[iW (aW _),iW h] at this;simp only[val,mA,jo,this]
theorem qc3{a b:List Nat}(ha:Dg a)(hb:Dg b):zW a b=an (val a+val b):=by
 unfold zW
 split
 .rw[Ro hb ha (by omega),th]
 .rw[Ro ha hb (by omega)]
theorem qc4{a b:List Nat}(ha:Dg a)(hb:Dg b):zW (tr a) (tr b)=an (val a+val b):=by
 rw[qc3 (sY ha) (sY hb),xe ha,xe hb]
def fP(b:List Nat)(x i:Nat):Nat->List Nat×Nat->List Nat×Nat
 | 0,s=>s
 | k+1,s=>let t:=fP b x i k s
  (t.1.set (i+k) ((t.2+(t.1.getD (i+k) 0+x*b.getD k 0))%4294967296),(t.2+(t.1.getD (i+k) 0+x*b.getD k 0))/4294967296)
theorem wL(b:List Nat)(x i:Nat)(s:List Nat×Nat):∀k,(fP b x i k s).1.length=s.1.length
 | 0=>rfl
 | k+1=>by simp[fP,wL b x i s k]
theorem AL{b:List Nat}{x i:Nat}{s:List Nat×Nat}(hb:Dg b)(hx:x<4294967296)(hs:Dg s.1)(hc:s.2<4294967296):∀k,Dg (fP b x i k s).1/\(fP b x i k s).2<4294967296
 | 0=>⟨hs,hc⟩
 | k+1=>by
  obtain ⟨h1,h2⟩:=AL hb hx hs hc k;have h3:=h1 (i+k);have h4:=hb k;have h5:x*b.getD k 0<=4294967295*4294967295:=il (by omega) (by omega);refine ⟨h1.set _ _ (jx _ (by omega)),?_⟩;simp only[fP];omega
theorem UQ(b:List Nat)(x i:Nat)(s:List Nat×Nat):∀k,i+k<=s.1.length->val (fP b x i k s).1+4294967296^(i+k)*(fP b x i k s).2=val s.1+4294967296^i*(s.2+x*vs b k)
 | 0,_=>by simp[fP,rC]
 | k+1,h=>by
  have ih:=UQ b x i s k (by omega);have hl:=wL b x i s k;simp only[fP,ju];generalize fP b x i k s=t at *;have h1:=Ea t.1 (i+k) ((t.2+(t.1.getD (i+k) 0+x*b.getD k 0))%4294967296) (by omega);have h2:=AS (4294967296^(i+k)) 4294967296 (t.2+(t.1.getD (i+k) 0+x*b.getD k 0))
  have h3:4294967296^i*(s.2+x*(vs b k+4294967296^k*b.getD k 0))=4294967296^i*(s.2+x*vs b k)+4294967296^(i+k)*(x*b.getD k 0):=by
   rw[qL];simp only[fL,my];congr 2;simp only[<- gQ];congr 1;rw[Nat.mul_right_comm]
  rw[h3];generalize hw:t.2+(t.1.getD (i+k) 0+x*b.getD k 0)=w at *;rw[<- hw,fL,fL,hw] at h2;rw[<- my,jS];omega
def ia(a b:List Nat):Nat->List Nat
 | 0=>List.replicate (a.length+b.length) 0
 | i+1=>(fP b (a.getD i 0) i b.length (ia a b i,0)).1.set (i+b.length) (fP b (a.getD i 0) i b.length (ia a b i,0)).2
def DC(a b:List Nat):List Nat:=tr (ia a b a.length)
theorem wK(a b:List Nat):∀i,(ia a b i).length=a.length+b.length
 | 0=>by simp[ia]
 | i+1=>by simp[ia,wL,wK a b i]
theorem yK{a b:List Nat}(ha:Dg a)(hb:Dg b):∀i,Dg (ia a b i)
 | 0=>xP _
 | i+1=>by
  have ih:=yK ha hb i;obtain ⟨h1,h2⟩:=AL (i:=i) (s:=(ia a b i,0)) hb (ha i) ih (by simp) b.length;exact h1.set _ _ h2
theorem MP(b:List Nat)(x i:Nat)(s:List Nat×Nat)(j:Nat):∀k,i+k<=j->(fP b x i k s).1.getD j 0=s.1.getD j 0
 | 0,_=>rfl
 | k+1,h=>by
  have ih:=MP b x i s j k (by omega);rw[<- ih];simp only[fP,bA];rw[dM (by omega)]
theorem UO(a b:List Nat)(j:Nat):∀i,i+b.length<=j->(ia a b i).getD j 0=0
 | 0,h=>by
  simp only[ia,bA,ui];split<;>rfl
 | i+1,h=>by
  have ih:=UO a b j i (by omega);rw[ia,uG (by omega),MP b (a.getD i 0) i (ia a b i,0) j b.length (by omega)];exact ih
theorem MO(a b:List Nat):∀i,i<=a.length->val (ia a b i)=vs a i*val b
 | 0,_=>by simp[ia,It,rC]
 | i+1,h=>by
  have ih:=MO a b i (by omega);have hl:=wK a b i;have h1:=UQ b (a.getD i 0) i (ia a b i,0) b.length (by simp only[hl];omega)
  have h0:(fP b (a.getD i 0) i b.length (ia a b i,0)).1.getD (i+b.length) 0=0:=by
   rw[MP _ _ _ _ _ _ (aW _)];exact UO a b _ i (aW _)
  have h2:=Ea (fP b (a.getD i 0) i b.length (ia a b i,0)).1 (i+b.length) (fP b (a.getD i 0) i b.length (ia a b i,0)).2 (by rw[wL];simp only[hl];omega);rw[h0,mA,jo] at h2;rw[ia,h2,h1,ih,iW (aW _),ju,fI,aL,gQ]
theorem qhZ{a b:List Nat}(ha:Dg a)(hb:Dg b):DC a b=an (val a*val b):=by
 rw[DC,ll (yK ha hb _),MO _ _ _ (aW _),iW (aW _)]
theorem qh0{a b:List Nat}(ha:Dg a)(hb:Dg b):DC (tr a) (tr b)=an (val a*val b):=by
 rw[qhZ (sY ha) (sY hb),xe ha,xe hb]
def fB(a b:List Nat):Nat->List Nat×Nat
 | 0=>(List.replicate a.length 0,0)
 | i+1=>if a.getD i 0<(fB a b i).2+b.getD i 0 then ((fB a b i).1.set i (a.getD i 0+4294967296-((fB a b i).2+b.getD i 0)),1)
  else ((fB a b i).1.set i (a.getD i 0-((fB a b i).2+b.getD i 0)),0)
def Ic(a b:List Nat):List Nat:=tr (fB a b a.length).1
theorem Bh(a b:List Nat):∀i,(fB a b i).1.length=a.length
 | 0=>by simp[fB]
 | i+1=>by simp only[fB];split<;>simp[Bh a b i]
theorem Ie(a b:List Nat):∀i,(fB a b i).2<=1
 | 0=>by simp[fB]
 | i+1=>by simp only[fB];split<;>simp
theorem Bg{a b:List Nat}(ha:Dg a)(hb:Dg b):∀i,Dg (fB a b i).1
 | 0=>xP _
 | i+1=>by
  have:=Ie a b i;have h1:=ha i;have h2:=hb i;simp only[fB]
  split
  .exact (Bg ha hb i).set _ _ (by omega)
  .exact (Bg ha hb i).set _ _ (by omega)
theorem WE(a b:List Nat)(j:Nat):∀i,i<=j->(fB a b i).1.getD j 0=0
 | 0,_=>by
  simp only[fB,bA,ui];split<;>rfl
 | i+1,h=>by
  have ih:=WE a b j i (by omega);simp only[fB];split<;>simp only[]<;>rw[uG (by omega),ih]
theorem WG{p x y b v1:Nat}{va vb r:Nat}(ih:r+vb=va+p*b) :
  (x<b+y->b+y<=x+v1->r+p*(x+v1-(b+y))+(vb+p*y)=va+p*x+p*v1*1)/\(¬ x<b+y->r+p*(x-(b+y))+(vb+p*y)=va+p*x+p*v1*0):=by
 constructor
 .intro h h';have e:=Vv p v1 x (b+y) h';rw[fL _ b] at e;rw[qo];omega
 .intro h;have e:=HK p x (b+y) (by omega);rw[fL _ b] at e;rw[mA];omega
theorem qjI{a b:List Nat}(ha:Dg a)(hb:Dg b)(i:Nat):i<=a.length->val (fB a b i).1+vs b i=vs a i+4294967296^i*(fB a b i).2:=by
 induction i with
 | zero=>
  intro _;rw[fB,It,rC,rC]
  rfl
 | succ i ih=>
  intro h;have ih:=ih (by omega);have hl:=Bh a b i;have h0:=WE a b i i (aW _);have hc:=Ie a b i;have h1:=ha i;have h2:=hb i;rw[ju,ju,jS,fB];obtain ⟨s1,s2⟩:=WG (x:=a.getD i 0) (y:=b.getD i 0) (v1:=4294967296) ih
  have hs:∀v,val ((fB a b i).1.set i v)=val (fB a b i).1+4294967296^i*v:=by
   intro v;have:=Ea (fB a b i).1 i v (by omega)
   rwa [h0,mA,jo] at this
  split
  .rename_i aG;rw[hs];exact s1 aG (by omega)
  .rename_i aG;rw[hs];exact s2 aG
theorem Xp(a:List Nat)(i:Nat):∀k,vs a i<=vs a (i+k)
 | 0=>aW _
 | k+1=>by rw[<- my,ju];exact b7 (Xp a i k) (Nat.le_add_right _ _)
theorem Xo(a:List Nat)(i:Nat):vs a i<=val a:=by
 have:=Xp a i a.length
 rwa [iW (by omega:a.length<=i+a.length)] at this
theorem Xn{a b:List Nat}(ha:Dg a)(h:val b<=val a):vs b a.length=val b:=by
 have h1:=mY ha;apply jv;intro hn;have aG:vs b a.length<val b:=Nat.lt_of_le_of_ne (Xo _ _) hn
 have:∀k,vs b a.length<vs b (a.length+k)->4294967296^a.length<=vs b (a.length+k):=by
  intro k
  induction k with
  | zero=>intro h;exact absurd h (rP _)
  | succ k ih=>
   intro hk;rw[<- my,ju] at hk ⊢
   by_cases h0:vs b a.length<vs b (a.length+k)
   .exact b7 (ih h0) (Nat.le_add_right _ _)
   .have:b.getD (a.length+k) 0≠0:=by
     intro e;rw[e] at hk;omega
    have h3:4294967296^a.length<=4294967296^(a.length+k):=qp (by omega) (by omega);have h4:4294967296^(a.length+k)*1<=4294967296^(a.length+k)*b.getD (a.length+k) 0:=kU _ (by omega);omega
 have:=this b.length (by rwa [iW (by omega:b.length<=a.length+b.length)]);rw[iW (by omega:b.length<=a.length+b.length)] at this;omega
theorem qjG{a b:List Nat}(ha:Dg a)(hb:Dg b)(h:val b<=val a):Ic a b=an (val a-val b):=by
 rw[Ic,ll (Bg ha hb _)];have h1:=qjI ha hb a.length (aW _);rw[iW (aW _),Xn ha h] at h1;have h2:=mY (Bg ha hb a.length);rw[Bh] at h2;have h3:=mY ha;have hc:=Ie a b a.length;congr 1
 have:(fB a b a.length).2=0:=by
  apply jv;intro hn;have e:(fB a b a.length).2=1:=by omega
  rw[e,qo] at h1;omega
 rw[this,mA,jo] at h1;omega
theorem qjH{a b:List Nat}(ha:Dg a)(hb:Dg b)(h:val b<=val a):Ic (tr a) (tr b)=an (val a-val b):=by
 rw[qjG (sY ha) (sY hb) (by rwa [xe ha,xe hb]),xe ha,xe hb]
end Go.Ab
namespace Go.Ab
section
variable {tk:TK} {k k':IntKind} {a b:Nat}
theorem DE:af tk .gtr (.int k a) (.int k b)=some (.bool (decide (a>b))):=by rw[pa];congr 2;exact mI.2 (by omega)
theorem bR:af tk .lss (.int k a) (.int k b)=some (.bool (decide (a<b))):=by rw[gw];congr 2;exact mI.2 (by omega)
theorem Ht:af tk .geq (.int k a) (.int k b)=some (.bool (decide (a≥b))):=by rw[o9];congr 2;exact mI.2 (by omega)
theorem yL:af tk .eql (.int k a) (.int k b)=some (.bool (decide (a=b))):=by rw[iY];congr 2;exact mI.2 (by omega)
theorem DF:af tk .neq (.int k a) (.int k b)=some (.bool (decide (a≠b))):=by rw[iL];congr 2;exact mI.2 (by omega)
theorem sF:af tk .gtr (.int k a) (.int k 0)=some (.bool (decide (a>0))):=DE (b:=0)
theorem DD:af tk .geq (.int k a) (.int k 0)=some (.bool true):=by rw[o9];congr 2
theorem mg:af tk .eql (.int k a) (.int k 0)=some (.bool (decide (a=0))):=yL (b:=0)
theorem UW:af tk .neq (.int k a) (.int k 0)=some (.bool (decide (a≠0))):=DF (b:=0)
theorem ve:af tk .eql (.int k a) (.int k 1)=some (.bool (decide (a=1))):=yL (b:=1)
theorem UU:af tk .eql (.int k a) (.int k 2)=some (.bool (decide (a=2))):=yL (b:=2)
theorem qh2:af tk .geq (.int k a) (.int k 4294967296)=some (.bool (decide (a≥4294967296))):=Ht (b:=4294967296)
theorem Hu:af tk .lss (.int k a) (.int k 4294967296)=some (.bool (decide (a<4294967296))):=bR (b:=4294967296)
theorem nU(h:a+b<18446744073709551616):af tk .add (.int .u64 a) (.int .u64 b)=some (.int .u64 (a+b:Nat)):=by
 rw[oF,jf (by omega) (by omega)];rfl
theorem DZ(h:a*b<18446744073709551616):af tk .mul (.int .u64 a) (.int .u64 b)=some (.int .u64 (a*b:Nat)):=by
 rw[Ce,<- l5,jf (by omega) (by omega)]
theorem zh(h:b<=a)(h':a<18446744073709551616):af tk .sub (.int .u64 a) (.int .u64 b)=some (.int .u64 (a-b:Nat)):=by
 rw[qu,jf (by omega) (by omega)];congr 2;omega
theorem Ip(h:1<=a)(h':a<18446744073709551616):af tk .sub (.int .u64 a) (.int .u64 1)=some (.int .u64 (a-1:Nat)):=zh (b:=1) h h'
theorem zg(h:b≠0)(h':a<18446744073709551616):af tk .quo (.int .u64 a) (.int .u64 b)=some (.int .u64 (a/b:Nat)):=by
 have e:af tk .quo (.int .u64 a) (.int .u64 b)=if (b:Int)=0 then none else some (.int .u64 (IntKind.wrap .u64 ((a:Int).tdiv b))):=by cases tk<;>rfl
 rw[e,ag (by omega)];have e2:(a:Int).tdiv b=((a/b:Nat):Int):=rfl;have:=BX a b;rw[e2];generalize a/b=q at *;rw[jf (by omega) (by omega)]
theorem Bl(h:b≠0)(h':a<18446744073709551616):af tk .rem (.int .u64 a) (.int .u64 b)=some (.int .u64 (a%b:Nat)):=by
 have e:af tk .rem (.int .u64 a) (.int .u64 b)=if (b:Int)=0 then none else some (.int .u64 ((a:Int).tmod b)):=by cases tk<;>rfl
 rw[e,ag (by omega)]
 rfl
theorem qkg(h':a<18446744073709551616):af tk .and (.int .u64 a) (.int .u64 4294967295)=some (.int .u64 (a%4294967296:Nat)):=by
 have e:af tk .and (.int .u64 a) (.int .u64 4294967295)=some (.int .u64 (IntKind.wrap .u64 ((BitVec.ofInt 64 a &&& BitVec.ofInt 64 4294967295).toNat:Nat))):=by cases tk<;>rfl
 have e2:(BitVec.ofInt 64 (a:Int) &&& BitVec.ofInt 64 4294967295).toNat=a%4294967296:=by
  rw[BitVec.toNat_and,xl,xl];have h1:(((a:Nat):Int)%((2^64:Nat):Int)).toNat=a:=by omega
  have h2:((4294967295:Int)%((2^64:Nat):Int)).toNat=2^32-1:=by omega
  rw[h1,h2,Nat.and_two_pow_sub_one_eq_mod]
 rw[e,e2,jf (by omega) (by omega)]
theorem D1(h:a<4294967296):af tk .shl (.int .u64 a) (.int k' 32)=some (.int .u64 (a*4294967296:Nat)):=Rz tk k' a h
theorem Io:af tk .shr (.int .u64 a) (.int k' 32)=some (.int .u64 (a/4294967296:Nat)):=by
 rw[Cf tk k' a (by omega)];rfl
theorem D0(h:a<4294967296)(h':b<4294967296):af tk .or (.int .u64 (a*4294967296:Nat)) (.int .u64 b)=some (.int .u64 (a*4294967296+b:Nat)):=by
 have e:af tk .or (.int .u64 (a*4294967296:Nat)) (.int .u64 b)=some (.int .u64 (IntKind.wrap .u64 ((BitVec.ofInt 64 (a*4294967296:Nat) ||| BitVec.ofInt 64 b).toNat:Nat))):=by cases tk<;>rfl
 have e2:(BitVec.ofInt 64 ((a*4294967296:Nat):Int) ||| BitVec.ofInt 64 (b:Int)).toNat=a*4294967296+b:=by
  rw[BitVec.toNat_or,xl,xl];have h1:(((b:Nat):Int)%((2^64:Nat):Int)).toNat=b:=by omega
  have h2:(((a*4294967296:Nat):Int)%((2^64:Nat):Int)).toNat=a*4294967296:=by omega
  rw[h1,h2];have:=Nat.two_pow_add_eq_or_of_lt (i:=32) (b:=b) (by omega) a;rw[show a*4294967296=2^32*a by omega,<- this]
 rw[e,e2,jf (by omega) (by omega)]
theorem lQ(h:a+b<9223372036854775808):af tk .add (.int .i64 a) (.int .i64 b)=some (.int .i64 (a+b:Nat)):=by
 rw[oF,km (by omega) (by omega)];rfl
theorem eF(h:a+1<9223372036854775808):af tk .add (.int .i64 a) (.int .i64 1)=some (.int .i64 (a+1:Nat)):=lQ (b:=1) h
theorem yE(h:b<=a)(h':a<9223372036854775808):af tk .sub (.int .i64 a) (.int .i64 b)=some (.int .i64 (a-b:Nat)):=by
 rw[qu,km (by omega) (by omega)];congr 2;omega
theorem tP(h:1<=a)(h':a<9223372036854775808):af tk .sub (.int .i64 a) (.int .i64 1)=some (.int .i64 (a-1:Nat)):=yE (b:=1) h h'
theorem Ug(h:2<=a)(h':a<9223372036854775808):af tk .sub (.int .i64 a) (.int .i64 2)=some (.int .i64 (a-2:Nat)):=yE (b:=2) h h'
theorem qA(h':a<9223372036854775808):af tk .sub (.int .i64 a) (.int .i64 1)=some (.int .i64 ((a:Int)-1)):=by
 rw[qu,km (by omega) (by omega)]
theorem KD(h:a<18446744073709551616):bF .u64 (.int k a)=some (.int .u64 a):=by rw[mH,jf (by omega) (by omega)]
theorem mF:bF .u32 (.int k a)=some (.int .u32 (a%4294967296:Nat)):=by rw[mH,xg];rfl
theorem mE(d:Nat)(h:d<4294967296):bF .u64 (dg d)=some (.int .u64 d):=KD (by omega)
theorem W8{s:Nat}(hs:s<32)(h:a<4294967296):af tk .shl (.int .u32 a) (.int .u64 s)=some (.int .u32 (a*2^s%4294967296:Nat)):=by
 have e:af tk .shl (.int .u32 a) (.int .u64 s)=sU true .u32 a s:=by cases tk<;>rfl
 have e3:IntKind.bits .u32=32:=rfl;rw[e,sU,ag (by omega),aj rfl,e3,nG,ur (by omega),xg];congr 2
theorem NY{s:Nat}(hs:s<32):af tk .shr (.int .u32 a) (.int .u64 s)=some (.int .u32 (a/2^s:Nat)):=by
 have e:af tk .shr (.int .u32 a) (.int .u64 s)=sU false .u32 a s:=by cases tk<;>rfl
 have e3:IntKind.bits .u32=32:=rfl;rw[e,sU,ag (by omega),ag (by decide),e3,nG,ur (by omega),Int.fdiv_eq_ediv_of_nonneg _ (by exact Int.le_of_lt (Int.pow_pos (by omega)))];congr 2
theorem qkf{s:Nat}(hs:s<32)(h:a<4294967296):af tk .shl (.int .u64 a) (.int .u64 s)=some (.int .u64 (a*2^s:Nat)):=by
 have e:af tk .shl (.int .u64 a) (.int .u64 s)=sU true .u64 a s:=by cases tk<;>rfl
 have e3:IntKind.bits .u64=64:=rfl;have h1:2^s<=2^31:=qp (by omega) (by omega);have h2:a*2^s<=a*2^31:=kU _ h1;have h3:(a:Int)*2^s=((a*2^s:Nat):Int):=by rw[l5,Int.natCast_pow];rfl
 rw[e,sU,ag (by omega),aj rfl,e3,nG,ur (by omega),h3,jf (by omega) (by omega)]
theorem qij{x y s:Nat}(h:x<2^s)(hy:y%2^s=0):x ||| y=x+y:=by
 have e:y=2^s*(y/2^s):=by have:=rO y (2^s);omega
 rw[e,Nat.or_comm,<- Nat.two_pow_add_eq_or_of_lt h,th]
theorem W5{s:Nat}(h:a<2^s)(hb:b%2^s=0)(hs:a+b<4294967296):af tk .or (.int .u32 a) (.int .u32 b)=some (.int .u32 (a+b:Nat)):=by
 have e:af tk .or (.int .u32 a) (.int .u32 b)=some (.int .u32 (IntKind.wrap .u32 ((BitVec.ofInt 32 a ||| BitVec.ofInt 32 b).toNat:Nat))):=by cases tk<;>rfl
 have e2:(BitVec.ofInt 32 (a:Int) ||| BitVec.ofInt 32 (b:Int)).toNat=a+b:=by
  rw[BitVec.toNat_or,xl,xl];have h1:(((a:Nat):Int)%((2^32:Nat):Int)).toNat=a:=by omega
  have h2:(((b:Nat):Int)%((2^32:Nat):Int)).toNat=b:=by omega
  rw[h1,h2,qij h hb]
 rw[e,e2,zn (by omega) (by omega)]
theorem qkc:af tk .add (.int .u32 a) (.int .u32 b)=some (.int .u32 ((a+b)%4294967296:Nat)):=by
 rw[oF,xg];rfl
end
theorem lR{x:NV}{k:IntKind}{i:Nat}(h:i<x.ds.length):aJ none x.av (.int k i)=some (.vptr [dg (x.ds.getD i 0)]):=by
 rw[NV.av,tQ (by omega) (by omega)];simp
theorem Hj{x:NV}{k:IntKind}(h:0<x.ds.length):aJ none x.av (.int k 0)=some (.vptr [dg (x.ds.getD 0 0)]):=lR (i:=0) h
theorem fk(x:NV):aY false x.av=some (.int .i64 x.ds.length):=by simp[NV.av,aY]
theorem j7{m:ae}{x:AV}:ai none m (.vptr [x])=some x:=rfl
def oc(ds:List Nat):Option Ent:=some (.obj false (ds.map dg))
theorem MU{m:ae}{n:Nat}{ds:List Nat}(h:m[n]?=some (oc ds)):m.obj? n=some (false,ds.map dg):=by
 simp[ae.obj?,ae.get,h,oc]
theorem sC{m:ae}{n:Nat}{ds:List Nat}{i:Nat}(h:m[n]?=some (oc ds))(hi:i<ds.length):ai none m (.ptr n i)=some (dg (ds.getD i 0)):=by
 simp[ai,MU h,jU,bA,hi]
theorem oZ{m:ae}{n:Nat}{ds:List Nat}{i v:Nat}(h:m[n]?=some (oc ds))(hi:i<ds.length):aA none m (.ptr n i) (.int .u32 v)=some (m.set n (oc (ds.set i v))):=by
 have h1:i+1<=ds.length:=hi;simp only[aA,MU h,aa,Sh.size,gu,h1,eC,eP,fZ,AV.cells,oc];congr 4;simp only[ka,aR,aX];rw[List.map_set,List.set_eq_take_append_cons_drop];simp[hi,dg,List.map_take,List.map_drop]
theorem wJ{e b:Nat}{m:ae}{n:Nat}(h':n*b<=281474976710656)(h2:n<=9223372036854775807):jM none e none (.int .u32 0) b m (.int .i64 n) (.int .i64 n)=some (.arr m.length 0 n none,m++[oc (List.replicate n 0)]):=UA h' h2
theorem qhB(nm n:Nat):aY false (.arr nm 0 n none)=some (.int .i64 n):=rfl
theorem qf7{m:ae}{nm:Nat}{ds:List Nat}(h:m[nm]?=some (oc ds)):frz m eo (.arr nm 0 ds.length none)=some (.lst none false .no (ds.map dg),[nm]):=by
 have h1:((ds.map dg).all fZ)=true:=by simp[List.all_map,dg,fZ]
 show (m.obj? nm).bind _=_;rw[MU h];simp only[aa,Sh.size,gu,aL,qo,aW,decide_true,mZ,Bool.and_self,eC,tg,nY (by simp:(ds.map dg).length<=ds.length)];rw[MH];simp only[aa,h1,Nh,Bool.and_self,eC,n7];rw[nY (by simp)]
theorem wO{cp:Nat->List AV->Option AV}{m:ae}{g nm:Nat}{ds:List Nat}(h:m[nm]?=some (oc ds)):ao cp none m g [.arr nm 0 ds.length none]=(cp g [(NV.mk false .no ds).av]).map fun v=>(v,m.set nm none):=by
 simp only[ao,bJ,qf7 h,aa,fg,Option.isSome_none,Bool.false_and,bN,BW,List.foldl_nil]
 rfl
end Go.Ab
namespace Go.Ab
open Go.Proofs.Try
theorem qa9(x:NV)(m:ae)(K:KT):∀n:Nat,n<=x.ds.length->x.ds.length<2^62->ER x.av (.int .i64 n) m K=K (.exit 0) (Ft x.av (.int .i64 (lW x.ds n)) m):=by
 intro n
 induction n with
 | zero=>
  intro _ _;rw[PC];simp[pa,au,lW]
 | succ n ih=>
  intro hn hl;have ih:=ih (by omega) hl;rw[PC];have h1:((n+1:Nat):Int)>0:=by omega
  have h2:IntKind.wrap .i64 (((n+1:Nat):Int)-1)=n:=by rw[km]<;>omega
  simp only[pa,aa,aw,aj h1,qu,h2];rw[NV.av,tQ (by omega) (by omega)];simp only[aa,qd,dg,iY,aw,nG];rw[lW]
  by_cases h:x.ds.getD n 0=0
  .rw[aj (by omega),aj h];exact ih
  .rw[ag (by omega),ag h]
theorem qb0(x:NV)(m:ae)(hl:x.ds.length<2^62):AC ab 124 [x.av] m=some (NV.av ⟨x.z,.no,tr x.ds⟩,m):=by
 rw[qbZ];simp only[NV.av,Hm,aa,gu];have:=qa9 x m (I4 (aN ab.P f124.results.toList)) x.ds.length (aW _) hl;rw[NV.av] at this;rw[this,YX,NN (by omega) (by have:=DY x.ds x.ds.length;omega)];simp[tr]
theorem qO(x:NV)(hl:x.ds.length<2^62):AP ab 124 [x.av]=some (NV.av ⟨x.z,.no,tr x.ds⟩):=
 jE (qb0 x [] hl) (dN _ _) (by simp[pB])
theorem qa7(x y:NV)(m:ae)(K:KT)(hl:x.ds.length<2^62):∀n:Nat,n<=x.ds.length->n<=y.ds.length ->
  EP x.av y.av (.int .i64 ((n:Int)-1)) m K=if mG x.ds y.ds n=0 then K (.exit 1) (JC m) else K .ret (FA (.int .i64 (mG x.ds y.ds n)) m):=by
 intro n
 induction n with
 | zero=>
  intro _ _;rw[Pv];simp[o9,au,mG]
 | succ n ih=>
  intro hx hy;have ih:=ih (by omega) (by omega);rw[Pv];have h1:((n+1:Nat):Int)-1=n:=by omega
  have h0:(n:Int)≥0:=by omega
  have h2:IntKind.wrap .i64 ((n:Int)-1)=(n:Int)-1:=by rw[km]<;>omega
  simp only[h1,o9,aa,aw,aj h0];simp only[NV.av] at ih ⊢;rw[tQ (by omega) (by omega),tQ (by omega) (by omega)];simp only[aa,qd,dg,gw,pa,aw,nG,qu,h2];rw[mG]
  by_cases h:x.ds.getD n 0<y.ds.getD n 0
  .rw[aj (by omega),aj h]
   rfl
  .rw[ag (by omega),ag h]
   by_cases h':x.ds.getD n 0>y.ds.getD n 0
   .rw[aj (by omega),aj h']
    rfl
   .rw[ag (by omega),ag h'];exact ih
theorem qbQ(x y:NV)(m:ae)(hx:x.ds.length<2^62)(hy:y.ds.length<2^62):AC ab 109 [x.av,y.av] m=some (.int .i64 (uC (tr x.ds) (tr y.ds)),m):=by
 have ha:(tr x.ds).length<2^62:=by simp only[tr,oA];omega
 rw[qbP,dW (dN x),qO x.fr hx];simp only[ar,aa,dW (dN y),qO y.fr hy];simp only[NV.av,Hm,gu,aa,gw,pa,aw,qu,NV.fr];unfold uC
 by_cases h:(tr x.ds).length<(tr y.ds).length
 .rw[aj (by omega),aj h]
 .rw[ag (by omega),ag h]
  by_cases h':(tr x.ds).length>(tr y.ds).length
  .rw[aj (by omega),aj h']
  .rw[ag (by omega),ag h',km (by omega) (by omega)];have:=qa7 ⟨x.z,.no,tr x.ds⟩ ⟨y.z,.no,tr y.ds⟩ m (Ew (aN ab.P f109.results.toList)) ha (tr x.ds).length (aW _) (by simp only;omega);simp only[NV.av] at this;rw[this,YB,YA]
   split
   .rename_i h0;rw[h0]
   .rfl
theorem qbm(x y:NV)(hx:x.ds.length<2^62)(hy:y.ds.length<2^62):AP ab 109 [x.av,y.av]=some (.int .i64 (uC (tr x.ds) (tr y.ds))):=
 jE (qbQ x y [] hx hy) (eK _ _ _) (by simp[gV])
theorem Pt(x y:NV)(m:ae)(K:KT)(hl:x.ds.length<2^40)(hy:y.ds.length<=x.ds.length)(dx:Dg x.ds)(dy:Dg y.ds):∀j i:Nat,i+j=x.ds.length ->
  zw y.av (.lst none false (.tok m.length 116) ((dR x.ds y.ds i).1.map dg)) (.int .u64 (dR x.ds y.ds i).2) x.av (.int .i64 x.ds.length) (.int .i64 i) (pF m i) K
   = K (.exit 0) (Fp (.lst none false (.tok m.length 116) ((dR x.ds y.ds x.ds.length).1.map dg)) (.int .u64 (dR x.ds y.ds x.ds.length).2) (pF m x.ds.length)):=by
 intro j
 induction j with
 | zero=>
  intro i hi;have:i=x.ds.length:=by omega
  subst this;rw[Pu];simp[gw,au]
 | succ j ih=>
  intro i hi;have ih:=ih (i+1) (by omega);have hc:=xE dx dy i;have h1:=dx i;have h2:=dy i;rw[Pu];have hi':((i:Nat):Int)<(x.ds.length:Int):=by omega
  have hw:IntKind.wrap .i64 ((i:Int)+1)=((i+1:Nat):Int):=by rw[km]<;>omega
  simp only[gw,aa,aw,aj hi'];simp only[NV.av] at ih ⊢
  have pk:aJ none (.lst none x.z x.o (x.ds.map dg)) (.int .i64 i)=some (.vptr [dg (x.ds.getD i 0)]):=by
   rw[tQ (by omega) (by omega)];simp
  rw[pk];have e1:IntKind.wrap .u64 ((x.ds.getD i 0:Nat):Int)=(x.ds.getD i 0:Nat):=by rw[jf]<;>omega
  have e2:IntKind.wrap .u64 (((dR x.ds y.ds i).2:Int)+(x.ds.getD i 0:Nat))=(((dR x.ds y.ds i).2+x.ds.getD i 0:Nat):Int):=by rw[jf]<;>omega
  simp only[aa,qd,dg,mH,e1,oF,e2,Hm,gu,gw,aw,hw]
  have fin:∀s:Nat,s=(dR x.ds y.ds i).2+x.ds.getD i 0+y.ds.getD i 0->(eG none false 116 none 4 (pF m i) (.lst none false (.tok m.length 116) ((dR x.ds y.ds i).1.map dg)) (.lst none false .full [.int .u32 (IntKind.wrap .u32 s)]))=some (.lst none false (.tok m.length 116) ((dR x.ds y.ds (i+1)).1.map dg),pF m (i+1)):=by
   intro s hs;have hlen:((dR x.ds y.ds i).1.map dg).length=i:=by rw[gu,vN]
   have:=F3 (e:=116) (b:=4) (m:=m) (es:=(dR x.ds y.ds i).1.map dg) (z:=false) (o:=.full) (y:=.int .u32 (IntKind.wrap .u32 s)) (by rw[hlen];simp only[iU];omega);rw[hlen] at this;rw[this];congr 3;simp only[dR,zO,qn,xw,dg,xg,<- hs]
   rfl
  by_cases h:(i:Int)<(y.ds.length:Int)
  .rw[aj h]
   have qgA:aJ none (.lst none y.z y.o (y.ds.map dg)) (.int .i64 i)=some (.vptr [dg (y.ds.getD i 0)]):=by
    rw[tQ (by omega) (by omega)];simp
   have e3:IntKind.wrap .u64 ((y.ds.getD i 0:Nat):Int)=(y.ds.getD i 0:Nat):=by rw[jf]<;>omega
   have e4:IntKind.wrap .u64 ((((dR x.ds y.ds i).2+x.ds.getD i 0:Nat):Int)+(y.ds.getD i 0:Nat))=(((dR x.ds y.ds i).2+x.ds.getD i 0+y.ds.getD i 0:Nat):Int):=by rw[jf]<;>omega
   have Tv:=qgA;simp only[dg] at Tv;rw[Tv];simp only[aa,qd,mH,e3,oF,e4,KC];have f:=fin _ rfl;rw[f];simp only[aa,Cf _ _ _ (ue _),hw];exact ih
  .rw[ag h]
   have h0:y.ds.getD i 0=0:=by
    rw[bA,iC (by omega)];rfl
   simp only[aa,mH,KC];have f:=fin ((dR x.ds y.ds i).2+x.ds.getD i 0) (by omega);rw[f];simp only[aa,Cf _ _ _ (ue _),oF,hw];have:(dR x.ds y.ds (i+1)).2=((dR x.ds y.ds i).2+x.ds.getD i 0)/4294967296:=by simp only[dR,h0,jo]
   rw[this] at ih;exact ih
theorem OX(a b:List Nat)(m:ae)(hl:a.length<2^40)(da:Dg a)(db:Dg b):zs (aN ab.P f108.results.toList) (.exit 0) (Fp (.lst none false (.tok m.length 116) ((dR a b a.length).1.map dg)) (.int .u64 (dR a b a.length).2) (pF m a.length))=some (NV.av ⟨false,.no,Ca a b⟩,pF m (a.length+1)):=by
 have hc:=xE da db a.length;have hlen:((dR a b a.length).1.map dg).length=a.length:=by rw[gu,vN]
 rw[Yx];simp only[mH,aa,KC,zn (ue _) (by omega:(((dR a b a.length).2:Nat):Int)<4294967296)];have:=F3 (e:=116) (b:=4) (m:=m) (es:=(dR a b a.length).1.map dg) (z:=false) (o:=.full) (y:=.int .u32 (dR a b a.length).2) (by rw[hlen];simp only[iU];omega);rw[hlen] at this;rw[this];simp only[aa];have e:(AV.lst none false (.tok m.length 116) ((dR a b a.length).1.map dg++[.int .u32 (dR a b a.length).2]))=NV.av ⟨false,.tok m.length 116,(dR a b a.length).1++[(dR a b a.length).2]⟩:=by simp[NV.av,dg]
 rw[e,dW (dN _),qO _ (by simp only[NV.fr,aK,vN,aR,aX];omega)]
 rfl
theorem qbO(x y:NV)(m:ae)(hx:x.ds.length<2^40)(hy:y.ds.length<2^40)(dx:Dg x.ds)(dy:Dg y.ds):∃m',AC ab 108 [x.av,y.av] m=some (NV.av ⟨false,.no,zW (tr x.ds) (tr y.ds)⟩,m'):=by
 have hZ:=Bj x.ds;have uZ:=Bj y.ds;have dx':=sY dx;have dy':=sY dy;rw[qbN,dW (dN x),qO x.fr (by simp only[NV.fr];omega)];simp only[ar,aa,dW (dN y),qO y.fr (by simp only[NV.fr];omega)];simp only[NV.av,Hm,gu,aa,gw,aw,oF,NV.fr];unfold zW
 by_cases h:(tr x.ds).length<(tr y.ds).length
 .rw[aj (by omega),aj h,km (by omega) (by omega),UB (by omega) (by omega) (by omega)];simp only[aa];have:=Pt ⟨y.z,.no,tr y.ds⟩ ⟨x.z,.no,tr x.ds⟩ m (zs (aN ab.P f108.results.toList)) (by simp only;omega) (by simp only;omega) dy' dx' (tr y.ds).length 0 (by simp);simp only[NV.av,dR,xw] at this;refine ⟨_,this.trans (OX (tr y.ds) (tr x.ds) m (by omega) dy' dx')⟩
 .rw[ag (by omega),ag h,km (by omega) (by omega),UB (by omega) (by omega) (by omega)];simp only[aa];have:=Pt ⟨x.z,.no,tr x.ds⟩ ⟨y.z,.no,tr y.ds⟩ m (zs (aN ab.P f108.results.toList)) (by simp only;omega) (by simp only;omega) dx' dy' (tr x.ds).length 0 (by simp);simp only[NV.av,dR,xw] at this;refine ⟨_,this.trans (OX (tr x.ds) (tr y.ds) m (by omega) dx' dy')⟩
theorem qbl(x y:NV)(hx:x.ds.length<2^40)(hy:y.ds.length<2^40)(dx:Dg x.ds)(dy:Dg y.ds):AP ab 108 [x.av,y.av]=some (NV.av ⟨false,.no,zW (tr x.ds) (tr y.ds)⟩):=by
 obtain ⟨m',h⟩:=qbO x y [] hx hy dx dy;exact jE h (dN _ _) (by simp[pB])
theorem qa6(y:NV)(m:ae)(K:KT)(x i n:Nat)(s:List Nat×Nat)(eg dV fS:AV)(hl:n<2^42)(hn:s.1.length=n)(hi:i+y.ds.length<=n)(dy:Dg y.ds)(hx:x<4294967296)(hs:Dg s.1)(hc:s.2<4294967296):∀j k:Nat,k+j=y.ds.length ->
  EO y.av (.arr m.length 0 n none) (.int .i64 i) (dg x) (.int .u64 (fP y.ds x i k s).2) eg dV fS y.av (.int .i64 y.ds.length) (.int .i64 k) (nA m (fP y.ds x i k s).1) K
   = K (.exit 2) (JB y.av (.arr m.length 0 n none) (.int .i64 i) (.int .u64 (fP y.ds x i y.ds.length s).2) eg dV fS (nA m (fP y.ds x i y.ds.length s).1)):=by
 intro j
 induction j with
 | zero=>
  intro k hk;have:k=y.ds.length:=by omega
  subst this;rw[Pr];simp[gw,au]
 | succ j ih=>
  intro k hk;have ih:=ih (k+1) (by omega);obtain ⟨h1,h2⟩:=AL (i:=i) dy hx hs hc k;have h3:=h1 (i+k);have h4:=dy k;have h5:x*y.ds.getD k 0<=4294967295*4294967295:=il (by omega) (by omega);have hlen:=wL y.ds x i s k;rw[Pr];have dO:((k:Nat):Int)<(y.ds.length:Int):=by omega
  have hw:IntKind.wrap .i64 ((k:Int)+1)=((k+1:Nat):Int):=by rw[km]<;>omega
  have pZ:IntKind.wrap .i64 ((i:Int)+k)=((i+k:Nat):Int):=by rw[km]<;>omega
  simp only[gw,aa,aw,aj dO]
  have pk:aJ none y.av (.int .i64 k)=some (.vptr [dg (y.ds.getD k 0)]):=by
   rw[NV.av,tQ (by omega) (by omega)];simp
  rw[pk];simp only[aa,qd,oF,pZ];rw[kP (by omega),aa,qhG (by omega)];have e1:IntKind.wrap .u64 (((fP y.ds x i k s).1.getD (i+k) 0:Nat):Int)=((fP y.ds x i k s).1.getD (i+k) 0:Nat):=by rw[jf]<;>omega
  have e2:IntKind.wrap .u64 ((x:Nat):Int)=x:=by rw[jf]<;>omega
  have e3:IntKind.wrap .u64 ((y.ds.getD k 0:Nat):Int)=(y.ds.getD k 0:Nat):=by rw[jf]<;>omega
  have e4:IntKind.wrap .u64 ((x:Int)*(y.ds.getD k 0:Nat))=((x*y.ds.getD k 0:Nat):Int):=by rw[<- l5,jf]<;>omega
  have e5:IntKind.wrap .u64 ((((fP y.ds x i k s).1.getD (i+k) 0:Nat):Int)+(x*y.ds.getD k 0:Nat))=(((fP y.ds x i k s).1.getD (i+k) 0+x*y.ds.getD k 0:Nat):Int):=by rw[jf]<;>omega
  have e6:IntKind.wrap .u64 (((fP y.ds x i k s).2:Int)+((fP y.ds x i k s).1.getD (i+k) 0+x*y.ds.getD k 0:Nat))=(((fP y.ds x i k s).2+((fP y.ds x i k s).1.getD (i+k) 0+x*y.ds.getD k 0):Nat):Int):=by rw[jf]<;>omega
  have e7:IntKind.wrap .u32 (((fP y.ds x i k s).2+((fP y.ds x i k s).1.getD (i+k) 0+x*y.ds.getD k 0):Nat):Int)=((((fP y.ds x i k s).2+((fP y.ds x i k s).1.getD (i+k) 0+x*y.ds.getD k 0))%4294967296:Nat):Int):=by rw[xg];rfl
  simp only[dg,aa,mH,e1,e2,e3,Ce,e4,e5,e6,e7,oF,pZ];rw[Bc (by omega)];simp only[aa,Cf _ _ _ (ue _),hw];exact ih
theorem qa5(x y:NV)(m:ae)(K:KT)(hx:x.ds.length<2^40)(hy:y.ds.length<2^40)(dx:Dg x.ds)(dy:Dg y.ds):∀j i:Nat,i+j=x.ds.length ->
  EN y.av (.arr m.length 0 (x.ds.length+y.ds.length) none) x.av (.int .i64 x.ds.length) (.int .i64 i) (nA m (ia x.ds y.ds i)) K
   = K (.exit 0) (JA (.arr m.length 0 (x.ds.length+y.ds.length) none) (nA m (ia x.ds y.ds x.ds.length))):=by
 intro j
 induction j with
 | zero=>
  intro i hi;have:i=x.ds.length:=by omega
  subst this;rw[Pq];simp[gw,au]
 | succ j ih=>
  intro i hi;have ih:=ih (i+1) (by omega);rw[Pq];have hi':((i:Nat):Int)<(x.ds.length:Int):=by omega
  have hw:IntKind.wrap .i64 ((i:Int)+1)=((i+1:Nat):Int):=by rw[km]<;>omega
  have pZ:IntKind.wrap .i64 ((i:Int)+y.ds.length)=((i+y.ds.length:Nat):Int):=by rw[km]<;>omega
  simp only[gw,aa,aw,aj hi']
  have pk:aJ none x.av (.int .i64 i)=some (.vptr [dg (x.ds.getD i 0)]):=by
   rw[NV.av,tQ (by omega) (by omega)];simp
  have hlen:aY false y.av=some (.int .i64 y.ds.length):=by simp[NV.av,aY]
  rw[pk];simp only[aa,qd,hlen];have hb:=qa6 y m (I0 K) (x.ds.getD i 0) i (x.ds.length+y.ds.length) (ia x.ds y.ds i,0) x.av (.int .i64 x.ds.length) (.int .i64 i) (by omega) (wK ..) (by omega) dy (dx i) (yK dx dy i) (by simp) y.ds.length 0 (by omega);simp only[fP] at hb;refine hb.trans ?_;obtain ⟨h1,h2⟩:=AL (i:=i) (s:=(ia x.ds y.ds i,0)) dy (dx i) (yK dx dy i) (by simp) y.ds.length;have hl:=wL y.ds (x.ds.getD i 0) i (ia x.ds y.ds i,0) y.ds.length;simp only[wK] at hl;rw[Yu];simp only[hlen,aa,oF,pZ,mH,zn (ue _) (by omega:(((fP y.ds (x.ds.getD i 0) i y.ds.length (ia x.ds y.ds i,0)).2:Nat):Int)<4294967296)];rw[kP (by omega),aa,Bc (by omega)];simp only[aa,hw];exact ih
theorem qbM(x y:NV)(m:ae)(hx:x.ds.length<2^40)(hy:y.ds.length<2^40)(dx:Dg x.ds)(dy:Dg y.ds):AC ab 107 [x.av,y.av] m=some (NV.av ⟨false,.no,DC (tr x.ds) (tr y.ds)⟩,m++[none]):=by
 have hZ:=Bj x.ds;have uZ:=Bj y.ds;rw[qbL,dW (dN x),qO x.fr (by simp only[NV.fr];omega)];simp only[ar,aa,dW (dN y),qO y.fr (by simp only[NV.fr];omega)];have hl:∀x:NV,aY false x.av=some (.int .i64 x.ds.length):=fun x=>by simp[NV.av,aY]
 have hw:IntKind.wrap .i64 (((tr x.ds).length:Int)+(tr y.ds).length)=(((tr x.ds).length+(tr y.ds).length:Nat):Int):=by rw[km]<;>omega
 simp only[hl,aa,oF,NV.fr,hw];rw[UA (by omega) (by omega)];simp only[aa];have:=qa5 ⟨x.z,.no,tr x.ds⟩ ⟨y.z,.no,tr y.ds⟩ m (IZ (aN ab.P f107.results.toList)) (by simp only;omega) (by simp only;omega) (sY dx) (sY dy) (tr x.ds).length 0 (by simp);refine this.trans ?_;rw[Yq];have hlen:=wK (tr x.ds) (tr y.ds) (tr x.ds).length;have hp:=qit (cp:=AP ab) (m:=m) (g:=124) (ds:=ia (tr x.ds) (tr y.ds) (tr x.ds).length);rw[hlen] at hp;rw[hp];have:=qO ⟨false,.no,ia (tr x.ds) (tr y.ds) (tr x.ds).length⟩ (by simp only[hlen];omega);simp only[NV.av] at this;rw[this]
 rfl
theorem qbk(x y:NV)(hx:x.ds.length<2^40)(hy:y.ds.length<2^40)(dx:Dg x.ds)(dy:Dg y.ds):AP ab 107 [x.av,y.av]=some (NV.av ⟨false,.no,DC (tr x.ds) (tr y.ds)⟩):=
 jE (qbM x y [] hx hy dx dy) (dN _ _) (by simp[pB])
def NV.ok(x:NV):Prop:=x.z=true->x.ds=[]
def tt(x:NV):NV:=⟨x.z,if x.ds=[] then .full else .no,x.ds⟩
theorem Qe(x:NV)(hz:x.ok)(hx:x.ds.length<2^40):AP ab 123 [x.av]=some (tt x).av:=by
 have h0:af .sl .eql x.av (.lst none true .full [])=some (.bool x.z):=rfl;obtain ⟨z,o,ds⟩:=x
 cases z with
 | true=>
  have:ds=[]:=hz rfl;subst this;refine jE (v:=NV.av ⟨true,.full,[]⟩) (m:=[]) ?_ (dN _ _) (by simp[pB]);rw[Ki,h0]
  rfl
 | false=>
  cases ds with
  | nil=>
   refine jE (v:=NV.av ⟨false,.full,[]⟩) (m:=[]) ?_ (dN _ _) (by simp[pB]);rw[Ki,h0]
   rfl
  | cons d ds=>
   refine jE (v:=NV.av ⟨false,.tok 0 116,d::ds⟩) (m:=[some (.tok (d::ds).length 1)]) ?_ (dN _ _) (by simp[pB]);rw[Ki,h0];have hl:(ds.length+1)*4<=140737488355328:=by simp only[aR] at hx;omega
   simp only[aa,au,iq,List.all_nil,eC,xw,NV.av,qn,eG,aX,aR,gu,aL,iU,hl,true_or,ko,j6,ak,aZ,Sh.size]
theorem qfg(x:NV):(tt x).fr=tt x:=by
 unfold tt NV.fr;simp only[];split<;>rfl
theorem qgd(x:NV):Fz (tt x).av (tt x).av:=by
 have:=dN (tt x)
 rwa [qfg] at this
def MW(n:Nat):List Nat:=tr [n%4294967296,n/4294967296]
theorem P93(n:Nat)(hn:n<18446744073709551616):AP ab 93 [.int .u64 n]=some (tt ⟨false,.no,MW n⟩).av:=by
 have e1:IntKind.wrap .u32 (n:Int)=((n%4294967296:Nat):Int):=by rw[xg];rfl
 have e2:IntKind.wrap .u32 ((n:Int)/4294967296)=((n/4294967296:Nat):Int):=by rw[zn]<;>omega
 have hb:iq none [.int .u32 ((n%4294967296:Nat):Int),.int .u32 ((n/4294967296:Nat):Int)]=some (NV.av ⟨false,.full,[n%4294967296,n/4294967296]⟩):=rfl;have hl:(tr [n%4294967296,n/4294967296]).length<=2:=Bj _;refine jE (m:=[]) ?_ (qgd _ _) (by simp[pB]);rw[T93];simp only[mH,aa,e1,Cf _ _ _ (ue _),e2,hb];rw[dW (dN _),qO _ (by simp[NV.fr])];simp only[ar,aa];rw[dW (dN _),Qe _ (by simp[NV.ok,NV.fr]) (by simp only[NV.fr];omega)]
 rfl
def wS(a:List Nat):Bool:=decide (a.length=0)||decide (a.getD (a.length-1) 0≠0)
theorem P94(x:NV)(hx:x.ds.length<2^40):AP ab 94 [x.av]=some (.bool (wS x.ds)):=by
 refine jE (m:=[]) ?_ (qU _ _) (by simp[gV]);have hl:aY false x.av=some (.int .i64 x.ds.length):=by simp[NV.av,aY]
 rw[T94];simp only[hl,aa,iY,aw]
 by_cases h:x.ds.length=0
 .rw[aj (by omega)];simp[wS,h]
 .rw[ag (by omega)];have hw:IntKind.wrap .i64 ((x.ds.length:Int)-1)=((x.ds.length-1:Nat):Int):=by rw[km]<;>omega
  simp only[qu,aa,hw]
  have pk:aJ none x.av (.int .i64 ((x.ds.length-1:Nat):Int))=some (.vptr [dg (x.ds.getD (x.ds.length-1) 0)]):=by
   rw[NV.av,tQ (by omega) (by omega)];simp
  rw[pk];simp only[aa,qd,dg,iL];congr 2;simp only[wS,h,decide_false,zr,AV.bool.injEq,mI];omega
def sV(a:List Nat):AV:=match a with
 | []=>.tup [.int .u64 0,.bool true]
 | [d]=>.tup [.int .u64 d,.bool true]
 | [d,e]=>.tup [.int .u64 (d+e*4294967296:Nat),.bool true]
 | _=>.tup [.int .u64 0,.bool false]
theorem GF(a:List Nat):Fz (sV a) (sV a)/\gV (sV a)=true:=by
 unfold sV;split<;>exact ⟨fun _=>rfl,rfl⟩
theorem P95(x:NV)(hx:x.ds.length<2^40)(dx:Dg x.ds):AP ab 95 [x.av]=some (sV (tr x.ds)):=by
 refine jE (m:=[]) ?_ ((GF _).1 _) (by simp[(GF _).2]);have hl:∀x:NV,aY false x.av=some (.int .i64 x.ds.length):=fun x=>by simp[NV.av,aY]
 rw[T95,dW (dN x),qO x.fr (by simp only[NV.fr];omega)];have dt:=sY dx;simp only[ar,aa,hl,iY,aw,NV.fr];generalize tr x.ds=a at dt
 match a,dt with
 | [],_=>rfl
 | [d],dt=>
  have h0:=dt 0;simp only[rK] at h0;rw[ag (by simp),aj (by simp)];simp only[NV.av];rw[show aJ none (.lst none x.z .no ([d].map dg)) (.int .i64 0)=some (.vptr [dg d]) from rfl];simp only[aa,qd,dg,mH,jf (ue d) (by omega)]
  rfl
 | [d,e],dt=>
  have h0:=dt 0;have h1:=dt 1;simp only[rK,zI] at h0 h1;rw[ag (by simp),ag (by simp),aj (by simp)];simp only[NV.av];rw[show aJ none (.lst none x.z .no ([d,e].map dg)) (.int .i64 0)=some (.vptr [dg d]) from rfl,show aJ none (.lst none x.z .no ([d,e].map dg)) (.int .i64 1)=some (.vptr [dg e]) from rfl];simp only[aa,qd,dg,mH,jf (ue d) (by omega),jf (ue e) (by omega),Rz _ _ e h1,qeX _ d e h0 h1]
  rfl
 | d::e::f::l,_=>
  rw[ag (by simp only[aR];omega),ag (by simp only[aR];omega),ag (by simp only[aR];omega)]
  rfl
theorem qa8(x y:NV)(m:ae)(K:KT)(hl:x.ds.length<2^40)(dx:Dg x.ds)(dy:Dg y.ds):∀j i:Nat,i+j=x.ds.length ->
  xo y.av (.arr m.length 0 x.ds.length none) (.int .u64 (fB x.ds y.ds i).2) x.av (.int .i64 x.ds.length) (.int .i64 i) (nA m (fB x.ds y.ds i).1) K
   = K (.exit 0) (JD (.arr m.length 0 x.ds.length none) (nA m (fB x.ds y.ds x.ds.length).1)):=by
 intro j
 induction j with
 | zero=>
  intro i hi;have:i=x.ds.length:=by omega
  subst this;rw[Pw];simp[gw,au]
 | succ j ih=>
  intro i hi;have ih:=ih (i+1) (by omega);have hc:=Ie x.ds y.ds i;have hlen:=Bh x.ds y.ds i;have h1:=dx i;have h2:=dy i;rw[Pw];have hi':((i:Nat):Int)<(x.ds.length:Int):=by omega
  have hw:IntKind.wrap .i64 ((i:Int)+1)=((i+1:Nat):Int):=by rw[km]<;>omega
  have e1:IntKind.wrap .u64 ((x.ds.getD i 0:Nat):Int)=(x.ds.getD i 0:Nat):=by rw[jf]<;>omega
  have e2:IntKind.wrap .u64 ((y.ds.getD i 0:Nat):Int)=(y.ds.getD i 0:Nat):=by rw[jf]<;>omega
  have e3:IntKind.wrap .u64 (((fB x.ds y.ds i).2:Int)+(y.ds.getD i 0:Nat))=(((fB x.ds y.ds i).2+y.ds.getD i 0:Nat):Int):=by rw[jf]<;>omega
  have s1:af .other .shl (.int .u64 1) (.int .u64 32)=some (.int .u64 4294967296):=rfl;have s0:af .other .shl (.int .u64 0) (.int .u64 32)=some (.int .u64 0):=rfl;simp only[gw,aa,aw,aj hi',lR (by omega:i<x.ds.length),qd,fk]
  have big:∀t:Nat,t=(fB x.ds y.ds i).2+y.ds.getD i 0->x.ds.getD i 0<t->
    IntKind.wrap .u32 (IntKind.wrap .u64 (IntKind.wrap .u64 ((x.ds.getD i 0:Nat)+4294967296:Int)-(t:Nat)))=((x.ds.getD i 0+4294967296-t:Nat):Int)/\fB x.ds y.ds (i+1)=((fB x.ds y.ds i).1.set i (x.ds.getD i 0+4294967296-t),1):=by
   intro t ht aG;refine ⟨?_,by simp only[fB,<- ht,aj aG]⟩;rw[jf (x:=((x.ds.getD i 0:Nat):Int)+4294967296) (by omega) (by omega),jf (by omega) (by omega),zn (by omega) (by omega)];omega
  have small:∀t:Nat,t=(fB x.ds y.ds i).2+y.ds.getD i 0->¬ x.ds.getD i 0<t->
    IntKind.wrap .u32 (IntKind.wrap .u64 (IntKind.wrap .u64 ((x.ds.getD i 0:Nat)+0:Int)-(t:Nat)))=((x.ds.getD i 0-t:Nat):Int)/\fB x.ds y.ds (i+1)=((fB x.ds y.ds i).1.set i (x.ds.getD i 0-t),0):=by
   intro t ht aG;refine ⟨?_,by simp only[fB,<- ht,ag aG]⟩;rw[jf (x:=((x.ds.getD i 0:Nat):Int)+0) (by omega) (by omega),jf (by omega) (by omega),zn (by omega) (by omega)];omega
  by_cases h:(i:Int)<(y.ds.length:Int)
  .rw[aj h,lR (by omega:i<y.ds.length)];simp only[aa,qd,dg,mH,e1,e2,e3,oF,gw,aw]
   by_cases h3:x.ds.getD i 0<(fB x.ds y.ds i).2+y.ds.getD i 0
   .obtain ⟨b1,b2⟩:=big _ rfl h3;rw[aj (by omega),s1];simp only[aa,oF,qu,mH,b1,hw];rw[kP (by omega),aa,Bc (by omega)];rw[b2] at ih;exact ih
   .obtain ⟨b1,b2⟩:=small _ rfl h3;rw[ag (by omega),s0];simp only[aa,oF,qu,mH,b1,hw];rw[kP (by omega),aa,Bc (by omega)];rw[b2] at ih;exact ih
  .rw[ag h];have h0:=xW h;simp only[aa,qd,dg,mH,e1,gw,aw]
   by_cases h3:x.ds.getD i 0<(fB x.ds y.ds i).2
   .obtain ⟨b1,b2⟩:=big (fB x.ds y.ds i).2 (by omega) h3;rw[aj (by omega),s1];simp only[aa,oF,qu,mH,b1,hw];rw[kP (by omega),aa,Bc (by omega)];rw[b2] at ih;exact ih
   .obtain ⟨b1,b2⟩:=small (fB x.ds y.ds i).2 (by omega) h3;rw[ag (by omega),s0];simp only[aa,oF,qu,mH,b1,hw];rw[kP (by omega),aa,Bc (by omega)];rw[b2] at ih;exact ih
end Go.Ab
namespace Go.Ab
def gP(a:List Nat)(d:Nat):Nat->List Nat×Nat
 | 0=>(List.replicate a.length 0,0)
 | k+1=>((gP a d k).1.set (a.length-1-k) (((gP a d k).2*4294967296+a.getD (a.length-1-k) 0)/d),((gP a d k).2*4294967296+a.getD (a.length-1-k) 0)%d)
theorem wV(a:List Nat)(d:Nat):∀k,(gP a d k).1.length=a.length
 | 0=>by simp[gP]
 | k+1=>by simp[gP,wV a d k]
theorem H5{a:List Nat}{d:Nat}(hd:0<d):∀k,(gP a d k).2<d
 | 0=>hd
 | k+1=>jx _ hd
theorem NL{a:List Nat}{d:Nat}(ha:Dg a)(hd:0<d)(k i:Nat):((gP a d k).2*4294967296+a.getD i 0)/d<4294967296:=by
 have h1:=H5 (a:=a) hd k;have h2:=ha i;rw[vF hd];have:((gP a d k).2+1)*4294967296<=d*4294967296:=fW _ h1;rw[en 4294967296 d];omega
theorem Ba{a:List Nat}{d:Nat}(ha:Dg a)(hd:0<d):∀k,Dg (gP a d k).1
 | 0=>xP _
 | k+1=>(Ba ha hd k).set _ _ (NL ha hd k _)
theorem Wm(a:List Nat)(d j:Nat):∀k,j+k<a.length->(gP a d k).1.getD j 0=0
 | 0,_=>GG _ _
 | k+1,h=>by
  rw[gP];simp only[];rw[uG (by omega)];exact Wm a d j k (by omega)
theorem Wn{a:List Nat}{d:Nat}(hd:0<d):∀k,k<=a.length->val (gP a d k).1*d+4294967296^(a.length-k)*(gP a d k).2+vs a (a.length-k)=val a
 | 0,_=>by simp[gP,It,iW]
 | k+1,h=>by
  have ih:=Wn (a:=a) hd k (by omega);obtain ⟨i,hi⟩:∃i,i=a.length-1-k:=⟨_,rfl⟩;have e1:a.length-k=i+1:=by omega
  have e2:a.length-(k+1)=i:=by omega
  have hk:=Wm a d i k (by omega);have hl:=wV a d k;rw[e1,ju,jS] at ih;rw[e2,gP,<- hi];generalize gP a d k=t at *;simp only[];have h1:=Ea t.1 i ((t.2*4294967296+a.getD i 0)/d) (by omega);rw[hk,mA,jo] at h1;rw[h1,fI,gQ,my (val t.1*d),<- fL,en (_/_) d,rO];rw[<- ih,fL];have:4294967296^i*(t.2*4294967296)=4294967296^i*4294967296*t.2:=by rw[en t.2,gQ]
  omega
def H6(a:List Nat)(d:Nat):List Nat:=tr (gP a d a.length).1
theorem Wo{a:List Nat}{d:Nat}(ha:Dg a)(hd:0<d):H6 a d=an (val a/d)/\(gP a d a.length).2=val a%d:=by
 have h:=Wn (a:=a) hd a.length (aW _);have h2:=H5 (a:=a) hd a.length;simp only[oE,Nat.pow_zero,nH,rC,jo] at h;rw[H6,ll (Ba ha hd _)]
 have e:val a/d=val (gP a d a.length).1/\val a%d=(gP a d a.length).2:=by
  rw[<- h]
  constructor
  .rw[en,Nat.mul_add_div hd,zQ h2];rfl
  .rw[en,Nat.mul_add_mod,ku h2]
 exact ⟨by rw[e.1],e.2.symm⟩
def wn(u:List Nat)(j:Nat):Nat->Nat
 | 0=>0
 | i+1=>wn u j i+4294967296^i*u.getD (j+i) 0
theorem Ec(u:List Nat):∀i,wn u 0 i=vs u i
 | 0=>rfl
 | i+1=>by rw[wn,Ec u i,ju,aL]
theorem zl{u:List Nat}(h:Dg u)(j:Nat):∀i,wn u j i<4294967296^i
 | 0=>by simp[wn]
 | i+1=>by
  have ih:=zl h j i;have h1:=h (j+i);rw[wn,jS];have:4294967296^i*(u.getD (j+i) 0+1)<=4294967296^i*4294967296:=kU _ h1;rw[fL] at this;omega
theorem Xr{u w:List Nat}{j:Nat}:∀i,(∀k,k<i->u.getD (j+k) 0=w.getD (j+k) 0)->wn u j i=wn w j i
 | 0,_=>rfl
 | i+1,h=>by rw[wn,wn,Xr i (fun k hk=>h k (by omega)),h i (by omega)]
theorem ub{u:List Nat}{j i p x:Nat}(h:p<j\/j+i<=p):wn (u.set p x) j i=wn u j i:=by
 apply Xr;intro k hk;exact uG (by omega)
theorem Xs(u:List Nat)(j i:Nat):∀k,wn u j (i+k)=wn u j i+4294967296^i*wn u (j+i) k
 | 0=>by simp[wn]
 | k+1=>by
  rw[<- my,wn,Xs u j i k,wn,fL,qL,gQ,my j,my]
theorem Eb(u:List Nat)(j i:Nat):wn u j (i+1)=u.getD j 0+4294967296*wn u (j+1) i:=by
 rw[th i 1,Xs u j 1 i];simp[wn]
theorem Oc{u:List Nat}{j:Nat}:∀i,(∀k,k<i->u.getD (j+k) 0=0)->wn u j i=0
 | 0,_=>rfl
 | i+1,h=>by rw[wn,Oc i (fun k hk=>h k (by omega)),h i (by omega)];simp
def jm(a:List Nat)(s:Nat):Nat->List Nat
 | 0=>List.replicate (a.length+1) 0
 | i+1=>((jm a s i).set i ((jm a s i).getD i 0+a.getD i 0*2^s%4294967296)).set (i+1) (a.getD i 0*2^s/4294967296)
theorem zb(a:List Nat)(s:Nat):∀i,(jm a s i).length=a.length+1
 | 0=>by simp[jm]
 | i+1=>by simp[jm,zb a s i]
theorem yW{s:Nat}(hs:s<32):2^s*2^(32-s)=4294967296:=by
 rw[<- qL,show s+(32-s)=32 by omega]
theorem LK{x s:Nat}(hx:x<4294967296):x*2^s/4294967296<2^s:=by
 rw[vF (by omega)];rw[en];exact Nat.mul_lt_mul_of_pos_left hx (uu s)
theorem Uv{x s:Nat}(hs:s<32):x*2^s%4294967296+2^s<=4294967296:=by
 have h:=yW hs
 have:x*2^s%4294967296=x%2^(32-s)*2^s:=by
  rw[<- h,en (2^s) (2^(32-s)),Nat.mul_mod_mul_right]
 rw[this];have h2:x%2^(32-s)<2^(32-s):=jx _ (uu _);have h3:(x%2^(32-s)+1)*2^s<=2^(32-s)*2^s:=fW _ h2;rw[en (2^(32-s)),h,fI] at h3;omega
theorem NI{a:List Nat}{s:Nat}(ha:Dg a):∀i,i<=a.length->(jm a s i).getD i 0<2^s
 | 0,_=>by rw[jm,GG];exact uu s
 | i+1,h=>by
  have hl:=zb a s i;rw[jm,qV (by rw[eB];omega)];exact LK (ha i)
theorem NH{a:List Nat}{s:Nat}(ha:Dg a)(hs:s<32):∀i,i<=a.length->Dg (jm a s i)
 | 0,_=>xP _
 | i+1,h=>by
  have h1:=NI (s:=s) ha i (by omega);have h2:=Uv (x:=a.getD i 0) hs;have h3:=LK (x:=a.getD i 0) (s:=s) (ha i);have h4:2^s<=2^31:=qp (by omega) (by omega);exact ((NH ha hs i (by omega)).set _ _ (by omega)).set _ _ (by omega)
theorem Wg{a:List Nat}{s:Nat}:∀i,i<=a.length->wn (jm a s i) 0 (i+1)=2^s*vs a i
 | 0,_=>by rw[jm,Oc];rfl;intro k _;exact GG _ _
 | i+1,h=>by
  have ih:=Wg (a:=a) (s:=s) i (by omega);have hl:=zb a s i;rw[wn,jm,ub (by omega),aL,qV (by rw[eB];omega),wn,ub (by omega),aL,qV (by omega)];rw[wn,aL] at ih;have e:=AS (4294967296^i) 4294967296 (a.getD i 0*2^s);rw[ju,fL (2^s),<- ih,jS,Nat.mul_left_comm (2^s),en (2^s),fL];omega
theorem Wh{a:List Nat}{s:Nat}:val (jm a s a.length)=2^s*val a:=by
 have h:=Wg (a:=a) (s:=s) a.length (aW _);rw[Ec,iW (by rw[zb];omega),iW (aW _)] at h;exact h
theorem qgi{g r top v1 v2 u0 lo vlo p q:Nat}(h:g*v1+r=top)(hc:r*4294967296+u0<g*v2)(eV:lo<p)
  (hq:q*((v1*4294967296+v2)*p+vlo)<=(top*4294967296+u0)*p+lo):q<g:=by
 apply jv;intro hn;have hg:g<=q:=vG hn;have h1:g*((v1*4294967296+v2)*p+vlo)<=q*((v1*4294967296+v2)*p+vlo):=fW _ hg
 have h2:(top*4294967296+u0+1)*p<=g*(v1*4294967296+v2)*p:=by
  apply fW;rw[fL,<- gQ,<- h];omega
 rw[fL,<- gQ] at h1;rw[fI _ 1,nH] at h2;omega
theorem SN{g r top v1 v2 u0 lo vlo p U V:Nat}(h:g*v1+r=top)(hc:g*v2<=r*4294967296+u0)(hg:g<4294967296)(hv:vlo<p)(tL:0<v1)
  (hU:U=(top*4294967296+u0)*p+lo) (hV:V=(v1*4294967296+v2)*p+vlo):g*V<U+V:=by
 have h2:g*(v1*4294967296+v2)*p<=(top*4294967296+u0)*p:=by
  apply fW;rw[fL,<- gQ,<- h];omega
 have h3:g*vlo<=4294967296*p:=il (by omega) (by omega)
 have h4:g*vlo<4294967296*p:=by
  rcases Nat.eq_zero_or_pos g with h0|h0
  .subst h0;rw[qM];omega
  .exact Nat.mul_lt_mul'' hg hv
 have h5:1*4294967296*p<=v1*4294967296*p:=fW _ (fW _ tL);rw[hV,fL,<- gQ,fI (v1*4294967296)];omega
def iS(v:List Nat)(g j:Nat):Nat->List Nat->List Nat×Nat×Nat
 | 0,u=>(u,0,0)
 | i+1,u=>
  let t:=iS v g j i u
  let c:=t.2.2+g*v.getD i 0
  let y:=c%4294967296+t.2.1
  if t.1.getD (i+j) 0<y then (t.1.set (i+j) (t.1.getD (i+j) 0+4294967296-y),1,c/4294967296)
  else (t.1.set (i+j) (t.1.getD (i+j) 0-y),0,c/4294967296)
theorem DB(v:List Nat)(g j:Nat)(u:List Nat):∀i,(iS v g j i u).1.length=u.length
 | 0=>rfl
 | i+1=>by
  rw[iS];split<;>simp[DB v g j u i]
theorem DA(v:List Nat)(g j:Nat)(u:List Nat):∀i,(iS v g j i u).2.1<=1
 | 0=>by simp[iS]
 | i+1=>by
  rw[iS];split<;>simp
theorem Hr{v:List Nat}{g:Nat}(hv:Dg v)(hg:g<4294967296)(j:Nat)(u:List Nat):∀i,(iS v g j i u).2.2<4294967296
 | 0=>by simp[iS]
 | i+1=>by
  have ih:=Hr hv hg j u i;have h4:=hv i;have h5:g*v.getD i 0<=4294967295*4294967295:=il (by omega) (by omega);rw[iS];split<;>(simp only[];omega)
theorem Hs{v u:List Nat}{g:Nat}(hu:Dg u)(j:Nat):∀i,Dg (iS v g j i u).1
 | 0=>hu
 | i+1=>by
  have ih:=Hs (v:=v) (g:=g) hu j i;have hb:=DA v g j u i;have h1:=ih (i+j);rw[iS]
  split
  .exact ih.set _ _ (by omega)
  .exact ih.set _ _ (by omega)
theorem MM(v:List Nat)(g j:Nat)(u:List Nat)(k:Nat):∀i,k<j\/i+j<=k->(iS v g j i u).1.getD k 0=u.getD k 0
 | 0,_=>rfl
 | i+1,h=>by
  have ih:=MM v g j u k i (by omega);rw[iS];split<;>simp only[]<;>rw[uG (by omega),ih]
theorem MN{v u:List Nat}{g:Nat}(hu:Dg u)(j:Nat):∀i,i+j<=u.length->wn (iS v g j i u).1 j i+g*vs v i=wn u j i+4294967296^i*((iS v g j i u).2.2+(iS v g j i u).2.1)
 | 0,_=>by simp[iS,wn,rC]
 | i+1,h=>by
  have ih:=MN (v:=v) (g:=g) hu j i (by omega);have hk:=MM v g j u (i+j) i (by omega);have hl:=DB v g j u i;have hb:=DA v g j u i;have hd:=hu (i+j);rw[wn.eq_2 u,ju,jS,fL,<- gQ g,en g (4294967296^i),gQ];rw[iS];generalize iS v g j i u=t at *;obtain ⟨t,b,c⟩:=t;simp only[] at *;rw[hk,th j i];have e:=AS (4294967296^i) 4294967296 (c+g*v.getD i 0);generalize hc:c+g*v.getD i 0=C at *;rw[<- hc,fL,hc] at e;rw[fL] at ih
  split
  .rename_i aG;simp only[];rw[wn,ub (by omega),th j i,qV (by omega)];have e2:=Vv (4294967296^i) 4294967296 (u.getD (i+j) 0) (C%4294967296+b) (by omega);rw[fL _ (C%4294967296)] at e2;rw[fL _ (C/4294967296),qo];omega
  .rename_i aG;simp only[];rw[wn,ub (by omega),th j i,qV (by omega)];have e2:=HK (4294967296^i) (u.getD (i+j) 0) (C%4294967296+b) (by omega);rw[fL _ (C%4294967296)] at e2;rw[jo];omega
def jT(v:List Nat)(j:Nat):Nat->List Nat->List Nat×Nat
 | 0,u=>(u,0)
 | i+1,u=>
  let t:=jT v j i u
  let c:=t.2+(t.1.getD (i+j) 0+v.getD i 0)
  (t.1.set (i+j) (c%4294967296),c/4294967296)
theorem B8(v:List Nat)(j:Nat)(u:List Nat):∀i,(jT v j i u).1.length=u.length
 | 0=>rfl
 | i+1=>by simp[jT,B8 v j u i]
theorem FZ{v u:List Nat}(hv:Dg v)(hu:Dg u)(j:Nat):∀i,Dg (jT v j i u).1/\(jT v j i u).2<=1
 | 0=>⟨hu,by simp[jT]⟩
 | i+1=>by
  obtain ⟨h1,h2⟩:=FZ hv hu j i;have h3:=h1 (i+j);have h4:=hv i;refine ⟨h1.set _ _ (jx _ (by omega)),?_⟩;simp only[jT];omega
theorem Kt(v:List Nat)(j:Nat)(u:List Nat)(k:Nat):∀i,k<j\/i+j<=k->(jT v j i u).1.getD k 0=u.getD k 0
 | 0,_=>rfl
 | i+1,h=>by
  have ih:=Kt v j u k i (by omega);rw[jT];simp only[];rw[uG (by omega),ih]
theorem Rm(v:List Nat)(j:Nat)(u:List Nat):∀i,i+j<=u.length->wn (jT v j i u).1 j i+4294967296^i*(jT v j i u).2=wn u j i+vs v i
 | 0,_=>by simp[jT,wn,rC]
 | i+1,h=>by
  have ih:=Rm v j u i (by omega);have hk:=Kt v j u (i+j) i (by omega);have hl:=B8 v j u i;rw[wn.eq_2 u,ju,jS];rw[jT];simp only[];generalize jT v j i u=t at *;rw[wn,ub (by omega),th j i,qV (by omega),hk];have e:=AS (4294967296^i) 4294967296 (t.2+(u.getD (i+j) 0+v.getD i 0));generalize hc:t.2+(u.getD (i+j) 0+v.getD i 0)=C at *;rw[<- hc,fL,fL,hc] at e;omega
def yF(v:List Nat)(n j g:Nat)(u:List Nat):List Nat×Nat:=
 let t:=iS v g j n u
 let y:=t.2.2+t.2.1
 if t.1.getD (j+n) 0<y then
  let w:=jT v j n (t.1.set (j+n) (t.1.getD (j+n) 0+4294967296-y))
  (w.1.set (j+n) ((w.1.getD (j+n) 0+w.2)%4294967296),g-1)
 else (t.1.set (j+n) (t.1.getD (j+n) 0-y),g)
theorem vV{q r U V:Nat}(h:U=q*V+r)(hr:r<V):U/V=q/\U%V=r:=by
 subst h
 constructor
 .rw[en,Nat.mul_add_div (by omega),zQ hr];rfl
 .rw[en,Nat.mul_add_mod,ku hr]
theorem qhq{v u:List Nat}{n j g:Nat}(hv:Dg v)(hu:Dg u)(hn:v.length=n)(hL:j+n<u.length)(hg:g<4294967296)(xZ:0<val v)
  (h1:wn u j (n+1)/val v<=g) (h2:g*val v<wn u j (n+1)+val v) :
  Dg (yF v n j g u).1/\(yF v n j g u).1.length=u.length/\(∀k,k<j\/j+n<k->(yF v n j g u).1.getD k 0=u.getD k 0) /\
  wn (yF v n j g u).1 j (n+1)=wn u j (n+1)%val v/\(yF v n j g u).2=wn u j (n+1)/val v:=by
 have hV:vs v n=val v:=iW (by omega);have hVP:val v<4294967296^n:=by rw[<- hn];exact mY hv
 have hw:=MN (v:=v) (g:=g) hu j n (by omega);have hk:∀k,k<j\/j+n<=k->(iS v g j n u).1.getD k 0=u.getD k 0:=fun k h=>MM v g j u k n (by omega);have hl:=DB v g j u n;have hb:=DA v g j u n;have hc:=Hr hv hg j u n;have hd:=Hs (v:=v) (g:=g) hu j n;have iP:=zl hd j n;have ht:=hk (j+n) (by omega);have Ml:=hu (j+n);have hUp:=zl hu j n;have hUe:wn u j (n+1)=wn u j n+4294967296^n*u.getD (j+n) 0:=rfl;rw[hUe] at h1 h2 ⊢;rw[hV] at hw;unfold yF;simp only[];generalize iS v g j n u=t at *;obtain ⟨t,b,c⟩:=t;simp only[] at *;rw[ht]
 have hU1:wn u j n+4294967296^n*u.getD (j+n) 0<(g+1)*val v:=by
  have:=Nat.lt_succ_of_le h1
  rwa [vF xZ] at this
 rw[fI,nH] at hU1;generalize u.getD (j+n) 0=top at *
 by_cases h:top<c+b
 .rw[aj h];simp only[];have jz:Dg (t.set (j+n) (top+4294967296-(c+b))):=hd.set _ _ (by omega);have ha:=Rm v j (t.set (j+n) (top+4294967296-(c+b))) n (by rw[eB];omega);have SY:∀k,k<j\/j+n<=k->(jT v j n (t.set (j+n) (top+4294967296-(c+b)))).1.getD k 0=(t.set (j+n) (top+4294967296-(c+b))).getD k 0:=fun k h=>Kt v j _ k n (by omega);obtain ⟨SX,wj⟩:=FZ hv jz j n;have kW:=B8 v j (t.set (j+n) (top+4294967296-(c+b))) n;rw[ub (by omega),hV] at ha;have rh:=SY (j+n) (by omega);rw[qV (by omega)] at rh;have Hd:=zl SX j n
  have tI:∀k,k<j\/j+n<k->(jT v j n (t.set (j+n) (top+4294967296-(c+b)))).1.getD k 0=u.getD k 0:=by
   intro k dO;rw[SY k (by omega),uG (by omega),hk k (by omega)]
  rw[eB] at kW;generalize jT v j n (t.set (j+n) (top+4294967296-(c+b)))=w at *;obtain ⟨w,x⟩:=w;simp only[] at *;rw[rh]
  have Tn:wn u j n+4294967296^n*top<g*val v:=by
   have:4294967296^n*(top+1)<=4294967296^n*(c+b):=kU _ h;rw[fL] at this;omega
  have CT:1<=g:=by
   apply na;intro e;rw[e,qM] at Tn;omega
  obtain ⟨g',hg'⟩:∃g',g=g'+1:=⟨g-1,by omega⟩;subst hg';rw[fI,nH] at Tn h2 hw;obtain ⟨r,hr⟩:∃r,wn u j n+4294967296^n*top=g'*val v+r:=⟨_,(Nat.add_sub_cancel' (by omega)).symm⟩;obtain ⟨hq,hm⟩:=vV hr (by omega)
  have key:wn w j n+4294967296^n*x=r+4294967296^n*(c+b-top):=by
   have:=HK (4294967296^n) (c+b) top (by omega);omega
  have hx:x=c+b-top/\wn w j n=r:=by
   have h3:=vV (q:=x) (r:=wn w j n) (V:=4294967296^n) (by rw[en x,th]) Hd;have h4:=vV (q:=c+b-top) (r:=r) (U:=wn w j n+4294967296^n*x) (V:=4294967296^n) (by rw[key,en (c+b-top),th]) (by omega);exact ⟨h3.1.symm.trans h4.1,h3.2.symm.trans h4.2⟩
  refine ⟨SX.set _ _ (jx _ (by omega)),by rw[eB,kW,hl],?_,?_,by rw[hq];rfl⟩
  .intro k dO;rw[uG (by omega)];exact tI k dO
  .rw[wn,ub (by omega),qV (by omega),hx.2,hm,hx.1];rw[show (top+4294967296-(c+b)+(c+b-top))%4294967296=0 by omega]
   rfl
 .rw[ag h];simp only[];have e:=HK (4294967296^n) top (c+b) (by omega);have hr:wn u j n+4294967296^n*top=g*val v+(wn t j n+4294967296^n*(top-(c+b))):=by omega
  obtain ⟨hq,hm⟩:=vV hr (by omega)
  refine ⟨hd.set _ _ (by omega),by rw[eB,hl],?_,?_,by rw[hq]⟩
  .intro k dO;rw[uG (by omega)];exact hk k (by omega)
  .rw[wn,ub (by omega),qV (by omega),hm]
structure KInv (v u0:List Nat) (n m j:Nat) (u q:List Nat):Prop where
 du:Dg u
 lu:u.length=m+n
 dq:Dg q
 lq:q.length=m
 hi:∀k,j+n<=k->u.getD k 0=0
 lo:∀k,k<j->u.getD k 0=u0.getD k 0
 lt:wn u j n<val v
 eq:wn q j (m-j)*val v+wn u j n=wn u0 j (m+n-j)
theorem KInv.step{v u0 u q:List Nat}{n m j:Nat}(hv:Dg v)(hn:v.length=n)(hj:j<m)(h:KInv v u0 n m (j+1) u q){u':List Nat}{d:Nat}
  (du:Dg u') (lu:u'.length=u.length) (hk:∀k,k<j\/j+n<k->u'.getD k 0=u.getD k 0)
  (hw:wn u' j (n+1)=wn u j (n+1)%val v) (hd:d=wn u j (n+1)/val v) (xZ:0<val v):KInv v u0 n m j u' (q.set j d):=by
 have hU:wn u j (n+1)=u.getD j 0+4294967296*wn u (j+1) n:=Eb u j n;have aG:wn u j (n+1)%val v<val v:=jx _ xZ;have hVP:val v<4294967296^n:=by rw[<- hn];exact mY hv
 have rh:u'.getD (j+n) 0=0:=by
  rw[wn] at hw;apply jv;intro aE;have:4294967296^n*1<=4294967296^n*u'.getD (j+n) 0:=kU _ (by omega);omega
 have Hd:wn u' j n=wn u j (n+1)%val v:=by
  rw[wn,rh,mA,jo] at hw;exact hw
 have yf:d<4294967296:=by
  rw[hd,vF xZ,hU];have h1:=h.lt;have h2:=h.du j;omega
 refine ⟨du,by rw[lu,h.lu],h.dq.set _ _ yf,by rw[eB,h.lq],?_,?_,by rw[Hd];exact aG,?_⟩
 .intro k dO
  by_cases e:k=j+n
  .rw[e,rh]
  .rw[hk k (by omega)];exact h.hi k (by omega)
 .intro k dO;rw[hk k (by omega)];exact h.lo k (by omega)
 .have e:=h.eq;obtain ⟨r,hr⟩:∃r,m-j=r+1:=⟨m-j-1,by omega⟩;rw[hr,Eb,qV (by rw[h.lq];exact hj),ub (by omega),Hd];rw[show m+n-j=(m+n-(j+1))+1 by omega,Eb u0,<- h.lo j (by omega),<- e,show m-(j+1)=r by omega];have h2:wn u j (n+1)=val v*d+wn u j (n+1)%val v:=by rw[hd,rO]
  rw[fI,fL,en d,gQ];omega
def lp(u:List Nat)(s:Nat):Nat->List Nat
 | 0=>[]
 | i+1=>lp u s i++[u.getD i 0/2^s+u.getD (i+1) 0*2^(32-s)%4294967296]
theorem D3(u:List Nat)(s:Nat):∀i,(lp u s i).length=i
 | 0=>rfl
 | i+1=>by simp[lp,D3 u s i]
theorem N3{x s:Nat}(hs:s<32):x*2^(32-s)%4294967296=x%2^s*2^(32-s):=by
 rw[<- yW hs,Nat.mul_mod_mul_right]
theorem Xd{x s:Nat}(hs:s<32)(hx:x<4294967296):x/2^s<2^(32-s):=by
 rw[vF (uu s),en,yW hs];exact hx
theorem Xc{x y s:Nat}(hs:s<32)(hx:x<4294967296):x/2^s+y*2^(32-s)%4294967296<4294967296:=by
 have h1:=Xd hs hx;have h2:y%2^s<2^s:=jx _ (uu s);have h3:(y%2^s+1)*2^(32-s)<=2^s*2^(32-s):=fW _ h2;rw[yW hs,fI] at h3;rw[N3 hs];omega
theorem Iq{u:List Nat}{s:Nat}(hu:Dg u)(hs:s<32):∀i,Dg (lp u s i)
 | 0=>xO
 | i+1=>xN (Iq hu hs i) (uD (Xc hs (hu i)))
theorem Xb{u:List Nat}{s:Nat}(hs:s<32):∀i,2^s*val (lp u s i)+u.getD 0 0%2^s=wn u 0 i+4294967296^i*(u.getD i 0%2^s)
 | 0=>by simp[lp,val,wn]
 | i+1=>by
  have ih:=Xb (u:=u) hs i;rw[lp,xd,D3,val,val,mA,jo,N3 hs,fL,wn,aL,jS];have e1:4294967296^i*u.getD i 0=4294967296^i*(2^s*(u.getD i 0/2^s)+u.getD i 0%2^s):=by rw[rO]
  have e2:2^s*(4294967296^i*(u.getD i 0/2^s+u.getD (i+1) 0%2^s*2^(32-s)))=4294967296^i*(2^s*(u.getD i 0/2^s))+4294967296^i*4294967296*(u.getD (i+1) 0%2^s):=by
   rw[<- yW hs];generalize (2^s*2^(32-s))^i=p;generalize u.getD (i+1) 0%2^s=y;generalize u.getD i 0/2^s=z;generalize 2^(32-s)=b;generalize 2^s=a;simp only[fL]
   congr 1
   .simp only[Nat.mul_left_comm,en]
   .simp only[Nat.mul_left_comm,en]
  rw[e2,e1,fL];omega
theorem KInv.done{v u0 u q a b:List Nat}{n m s:Nat}(hs:s<32)(hu:u0.length=m+n)(h0:val u0=2^s*val a)(hv:val v=2^s*val b)(h:KInv v u0 n m 0 u q) :
  tr q=an (val a/val b)/\tr (lp u s n)=an (val a%val b):=by
 have hp:=uu s;have e:=h.eq;have aG:=h.lt;rw[Nat.sub_zero,Nat.sub_zero,Ec u0,iW (by omega),Ec q,iW (by rw[h.lq];omega),h0] at e
 have hd:2^s*val a/(2^s*val b)=val q/\2^s*val a%(2^s*val b)=wn u 0 n:=by
  rw[<- hv];exact vV e.symm aG
 rw[Nat.mul_div_mul_left _ _ hp] at hd;rw[Nat.mul_mod_mul_left] at hd;rw[ll h.dq,ll (Iq h.du hs n),hd.1];refine ⟨rfl,?_⟩;have hr:=Xb (u:=u) hs n;have rh:=h.hi n (by omega);rw[rh,Nat.zero_mod,mA,jo,<- hd.2] at hr;have hm:u.getD 0 0%2^s<2^s:=jx _ hp;have:=(vV (q:=val a%val b) (r:=0) (U:=2^s*(val a%val b)) (V:=2^s) (by rw[en];rfl) hp).1;have h3:=(vV (q:=val (lp u s n)) (r:=u.getD 0 0%2^s) (U:=2^s*(val a%val b)) (V:=2^s) (by rw[<- hr,en]) hm).1;rw[<- this,h3]
end Go.Ab
namespace Go.Ab
open Go.Proofs.Try
structure NOk (x:NV):Prop where
 dg:Dg x.ds
 len:x.ds.length<2^40
 nil:x.z=true->x.ds=[]
def NV.v(x:NV):Nat:=val x.ds
theorem NOk.fr{x:NV}(h:NOk x):NOk x.fr:=⟨h.dg,h.len,h.nil⟩
theorem wM{o:Own}{n:Nat}(h:(an n).length<2^40):NOk ⟨false,o,an n⟩:=⟨eU n,h,by simp⟩
theorem rR{x:NV}(h:NOk x):AP ab 124 [x.av]=some (NV.av ⟨x.z,.no,an x.v⟩):=by
 rw[qO x (by have:=h.len;omega),ll h.dg];rfl
theorem xC{x y:NV}(hx:NOk x)(hy:NOk y):AP ab 109 [x.av,y.av]=some (.int .i64 (gS x.v y.v)):=by
 rw[qbm x y (by have:=hx.len;omega) (by have:=hy.len;omega),qfi hx.dg hy.dg];rfl
theorem qch{x y:NV}(hx:NOk x)(hy:NOk y):AP ab 108 [x.av,y.av]=some (NV.av ⟨false,.no,an (x.v+y.v)⟩):=by
 rw[qbl x y hx.len hy.len hx.dg hy.dg,qc4 hx.dg hy.dg];rfl
theorem xB{x y:NV}(hx:NOk x)(hy:NOk y):AP ab 107 [x.av,y.av]=some (NV.av ⟨false,.no,an (x.v*y.v)⟩):=by
 rw[qbk x y hx.len hy.len hx.dg hy.dg,qh0 hx.dg hy.dg];rfl
def sG(n:Nat):Own:=if n=0 then .full else .no
theorem RL(z:Bool)(o:Own)(n:Nat):tt ⟨z,o,an n⟩=⟨z,sG n,an n⟩:=by
 unfold tt sG;simp only[D9]
theorem QI{z:Bool}{o:Own}{n:Nat}(h:NOk ⟨z,o,an n⟩):AP ab 123 [NV.av ⟨z,o,an n⟩]=some (NV.av ⟨z,sG n,an n⟩):=by
 rw[Qe _ h.nil h.len,RL]
theorem qh7{n:Nat}(h:n<18446744073709551616):MW n=an n:=by
 rw[MW,ll (mJ.2 ⟨jx _ (by omega),uD (by omega)⟩)];congr 1;simp only[val];omega
theorem Q1{n:Nat}(h:n<18446744073709551616):AP ab 93 [.int .u64 n]=some (NV.av ⟨false,sG n,an n⟩):=by
 rw[P93 n h,qh7 h,RL]
def pe(ds:List Nat):Bool:=decide (ds=an (val ds))
theorem qj2{ds:List Nat}(h:ds.length≠0)(h':ds.getD (ds.length-1) 0≠0):tr ds=ds:=by
 obtain ⟨n,hn⟩:∃n,ds.length=n+1:=⟨ds.length-1,by omega⟩;rw[hn,ti] at h';rw[tr,hn,lW,ag h',<- hn,List.take_length]
theorem Nv{ds:List Nat}(h:Dg ds):wS ds=pe ds:=by
 unfold wS pe;rw[<- ll h]
 by_cases h0:ds.length=0
 .have:ds=[]:=List.length_eq_zero_iff.1 h0;subst this
  rfl
 .by_cases h1:ds.getD (ds.length-1) 0=0
  .have aG:(tr ds).length<ds.length:=by
    obtain ⟨n,hn⟩:∃n,ds.length=n+1:=⟨ds.length-1,by omega⟩;rw[hn,ti] at h1;have:=DY ds n;rw[tr,oA,hn,lW,aj h1];omega
   have aE:¬ ds=tr ds:=fun e=>by rw[<- e] at aG;omega
   rw[kC h0,kC aE,h1];rfl
  .have:=qj2 h0 h1;rw[nd this.symm,nd h1,Bool.or_true]
theorem Q3{x:NV}(h:NOk x):AP ab 94 [x.av]=some (.bool (pe x.ds)):=by
 rw[P94 x h.len,Nv h.dg]
def sW(n:Nat):AV:=if n<18446744073709551616 then .tup [.int .u64 n,.bool true] else .tup [.int .u64 0,.bool false]
theorem Wt(n:Nat):sV (an n)=sW n:=by
 have hv:=fG n;have hd:=eU n;unfold sW;generalize he:an n=l at *
 match l,hv,hd with
 | [],hv,_=>
  simp only[val] at hv;subst hv
  rfl
 | [d],hv,hd=>
  have:=(mJ.1 hd).1;simp only[val] at hv;rw[aj (by omega),sV,<- hv]
  rfl
 | [d,e],hv,hd=>
  have:=(mJ.1 hd).1;have:=(mJ.1 (mJ.1 hd).2).1;simp only[val] at hv;rw[aj (by omega),sV,<- hv];congr 4;omega
 | d::e::f::l,hv,hd=>
  have hl:2<(an n).length:=by rw[he];simp
  have:=Gl hl
  rw[ag (by omega),sV]
  .intro h;cases h
  .intro x h;cases h
  .intro x y h;cases h
theorem V95{x:NV}(h:NOk x):AP ab 95 [x.av]=some (sW x.v):=by
 rw[P95 x h.len h.dg,ll h.dg,Wt];rfl
theorem Ak(sh:Sh)(z:Bool)(o:Own)(es:List AV):∀m k,frz m (k+1) (.lst sh z o es)=some (.lst sh z o.fr es,[]):=by
 intro m k;cases o<;>rfl
theorem gH(k:IntKind)(n:Int):∀m j,frz m (j+1) (.int k n)=some (.int k n,[]):=fun _ _=>rfl
theorem CB(b:Bool):∀m j,frz m (j+1) (.bool b)=some (.bool b,[]):=fun _ _=>rfl
theorem wc{a a' b b':AV}(ha:∀m k,frz m (k+1) a=some (a',[]))(hb:∀m k,frz m (k+1) b=some (b',[])):Fz (.tup [a,b]) (.tup [a',b']):=by
 intro m;show (bJ (frz m 8) [a,b]).map _=_;simp[bJ,ha m 7,hb m 7]
theorem we{a a' b b' c c':AV}(ha:∀m k,frz m (k+1) a=some (a',[]))(hb:∀m k,frz m (k+1) b=some (b',[]))(hc:∀m k,frz m (k+1) c=some (c',[])):Fz (.tup [a,b,c]) (.tup [a',b',c']):=by
 intro m;show (bJ (frz m 8) [a,b,c]).map _=_;simp[bJ,ha m 7,hb m 7,hc m 7]
theorem bT{C:Cfg}{f:Nat}{args:List AV}{m:ae}(v v':AV)(hf:Fz v v')(hv:gV v'=true)(h:AC C f args []=some (v,m)):AP C f args=some v':=
 jE h (hf m) (by rw[hv,Bool.or_true])
theorem pf(x:NV):∀m k,frz m (k+1) x.av=some (x.fr.av,[]):=Ak _ _ _ _
theorem Al:∀m k,frz m (k+1) (.lst none true .full [])=some (.lst none true .full [],[]):=Ak _ _ _ _
def AM:AV:=.lst none true .full []
def NR(x y:NV):AV:=if x.v<y.v then .tup [AM,.int .i64 1] else .tup [NV.av ⟨false,.no,an (x.v-y.v)⟩,.int .i64 0]
theorem QF{x y:NV}(hx:NOk x)(hy:NOk y):AP ab 110 [x.av,y.av]=some (NR x y):=by
 have hZ:=Bj x.ds;have lx:=hx.len;have e1:=rR hx.fr;have e2:=rR hy.fr;rw[show x.fr.v=x.v from rfl] at e1;rw[show y.fr.v=y.v from rfl] at e2;have uY:(an x.v).length<2^40:=by rw[NV.v,<- ll hx.dg];omega
 unfold NR
 by_cases h:x.v<y.v
 .rw[aj h];refine bT _ _ (wc Al (gH _ _)) rfl (m:=[]) ?_;rw[Qm,gO (dN x) (dN y),xC hx.fr hy.fr];simp only[ar,aa,gw,aw,gS];rw[show x.fr.v=x.v from rfl,show y.fr.v=y.v from rfl,aj h,aj (by omega)]
 .rw[ag h];have key:=qjH hx.dg hy.dg (vG h);rw[ll hx.dg,ll hy.dg,Ic] at key;refine bT _ _ (wc (pf ⟨false,.no,an (x.v-y.v)⟩) (gH _ _)) rfl (m:=[none]) ?_;rw[Qm,gO (dN x) (dN y),xC hx.fr hy.fr];simp only[ar,aa,gw,aw,gS];rw[show x.fr.v=x.v from rfl,show y.fr.v=y.v from rfl,ag h,ag (by split<;>omega),dW (dN x),e1];simp only[ar,aa,dW (dN y),e2,fk];rw[wJ (by omega) (by omega)];simp only[aa];have:=qa8 ⟨x.z,.no,an x.v⟩ ⟨y.z,.no,an y.v⟩ [] (I1 (aN ab.P f110.results.toList)) uY (eU _) (eU _) (an x.v).length 0 (by simp);refine this.trans ?_;rw[YE];have hm:(nA [] (fB (an x.v) (an y.v) (an x.v).length).1)[0]?=some (oc (fB (an x.v) (an y.v) (an x.v).length).1):=rfl;have hp:=wO (cp:=AP ab) (g:=124) hm;rw[Bh] at hp;rw[show ([]:ae).length=0 from rfl,hp,rR ⟨Bg (eU _) (eU _) _,by simp only[Bh];exact uY,by simp⟩];simp only[ar,aa,NV.v];rw[ll (Bg (eU _) (eU _) _)] at key;rw[key]
  rfl
theorem qbb(x:NV)(d:Nat)(m:ae)(K:KT)(hl:x.ds.length<2^40)(dx:Dg x.ds)(hd:0<d)(gB:d<4294967296):∀j k:Nat,k+j=x.ds.length ->
  EV x.av (dg d) (.arr m.length 0 x.ds.length none) (.int .u64 (gP x.ds d k).2) (.int .i64 ((j:Int)-1)) (m++[oc (gP x.ds d k).1]) K
   = K (.exit 0) (JN (.arr m.length 0 x.ds.length none) (.int .u64 (gP x.ds d x.ds.length).2) (m++[oc (gP x.ds d x.ds.length).1])):=by
 intro j
 induction j with
 | zero=>
  intro k hk;have:k=x.ds.length:=by omega
  subst this;rw[PJ];simp[o9,au]
 | succ j ih=>
  intro k hk;have ih:=ih (k+1) (by omega);have hr:=H5 (a:=x.ds) hd k;have hq:=NL (a:=x.ds) dx hd k j;have hlen:=wV x.ds d k;have hj:=dx j;have ej:x.ds.length-1-k=j:=by omega
  rw[PJ,show ((j+1:Nat):Int)-1=(j:Nat) by omega];simp only[gP,ej] at ih;generalize gP x.ds d k=t at *;simp (disch:=omega) only[DD,aa,au,D1,lR,j7,mE,D0,zg,Bl,mF];rw[kP (by omega),aa,ku hq,oZ (zJ ..) (by omega)];simp (disch:=omega) only[aa,qA];rw[qK _ _ (aW _)];simp only[oE,bk];exact ih
theorem qcq{x:NV}{d:Nat}(hx:NOk x)(hd:0<d)(gB:d<4294967296):AP ab 136 [x.av,dg d]=some (.tup [NV.av ⟨false,.no,an (x.v/d)⟩,dg (x.v%d)]):=by
 have lx:=hx.len;obtain ⟨k1,k2⟩:=Wo hx.dg hd;have aG:val x.ds%d<d:=jx _ hd;refine bT _ _ (wc (pf ⟨false,.no,an (x.v/d)⟩) (gH _ _)) rfl (m:=[none]) ?_;rw[qca];simp only[fk,aa];rw[wJ (by omega) (by omega)];simp only[aa];rw[qA (by omega)];simp only[aa];have:=qbb x d [] (Jb (aN ab.P f136.results.toList)) lx hx.dg hd gB x.ds.length 0 (by omega);refine this.trans ?_;rw[Zo];have hm:(([]:ae)++[oc (gP x.ds d x.ds.length).1])[0]?=some (oc (gP x.ds d x.ds.length).1):=rfl;have hp:=wO (cp:=AP ab) (g:=124) hm;rw[wV] at hp;rw[H6,ll (Ba hx.dg hd _)] at k1;rw[show ([]:ae).length=0 from rfl,hp,rR ⟨Ba hx.dg hd _,by simp only[wV];exact lx,by simp⟩,k2];simp only[ar,aa,NV.v,mF];rw[k1,ku (Nat.lt_trans aG gB)]
 rfl
theorem qbc(x:NV)(s:Nat)(m:ae)(K:KT)(hl:x.ds.length<2^40)(dx:Dg x.ds)(hs:s<32):∀j i:Nat,i+j=x.ds.length ->
  EW (.int .u64 s) (.arr m.length 0 (x.ds.length+1) none) x.av (.int .i64 x.ds.length) (.int .i64 i) (m++[oc (jm x.ds s i)]) K
   = K (.exit 0) (JO (.arr m.length 0 (x.ds.length+1) none) (m++[oc (jm x.ds s x.ds.length)])):=by
 intro j
 induction j with
 | zero=>
  intro i hi;have:i=x.ds.length:=by omega
  subst this;rw[PL];simp[gw,au]
 | succ j ih=>
  intro i hi;have ih:=ih (i+1) (by omega);have hlen:=zb x.ds s i;have hd:=dx i;have h1:=NI (s:=s) dx i (by omega);have h2:=Uv (x:=x.ds.getD i 0) hs;have h3:=LK (x:=x.ds.getD i 0) (s:=s) hd;have h4:2^s<=2^31:=qp (by omega) (by omega)
  have h6:x.ds.getD i 0*2^s%4294967296%2^s=0:=by
   rw[<- yW hs,en (2^s),Nat.mul_mod_mul_right,Nat.mul_mod_left]
  rw[PL];simp only[jm] at ih;generalize jm x.ds s i=t at *;simp (disch:=omega) only[bR,aa,aw,aj,lR,j7,kP];rw[sC (zJ ..) (by omega)];simp only[dg,aa];rw[W8 hs hd,aa,W5 h1 h6 (by omega),aa,oZ (zJ ..) (by omega)];simp (disch:=omega) only[aa,eF,KD,qkf hs,Io,mF,kP];rw[qK _ _ (aW _)];simp only[oE,bk];rw[oZ (zJ ..) (by rw[eB];omega),qK _ _ (aW _)];simp only[oE,bk,aa];rw[ku (by omega:x.ds.getD i 0*2^s/4294967296<4294967296)];exact ih
theorem QN{x:NV}{s:Nat}(m:ae)(hx:NOk x)(hs:s<32):AC ab 138 [x.av,.int .u64 s] m=some (.arr m.length 0 (x.ds.length+1) none,m++[oc (jm x.ds s x.ds.length)]):=by
 have lx:=hx.len;rw[qcc];simp only[fk,aa];rw[eF (by omega),aa,wJ (by omega) (by omega)];simp only[aa];refine (qbc x s m _ lx hx.dg hs x.ds.length 0 (by omega)).trans ?_;rw[Zr]
def lz(x:Nat):Nat:=31-Nat.log2 x
theorem qhH{x k:Nat}(h:2^k<=x)(h':x<2^(k+1)):Nat.log2 x=k:=by
 have hx:x≠0:=by have:=uu k;omega
 exact (Nat.log2_eq_iff hx).2 ⟨h,h'⟩
def Hl:ByteArray:=⟨⟨[0,1,2,2,3,3,3,3,4,4,4,4,4,4,4,4,5,5,5,5,5,5,5,5,5,5,5,5,5,5,5,5,6,6,6,6,6,6,6,6,6,6,6,6,6,6,6,6,6,6,6,6,6,6,6,6,6,6,6,6,6,6,6,6,7,7,7,7,7,7,7,7,7,7,7,7,7,7,7,7,7,7,7,7,7,7,7,7,7,7,7,7,7,7,7,7,7,7,7,7,7,7,7,7,7,7,7,7,7,7,7,7,7,7,7,7,7,7,7,7,7,7,7,7,7,7,7,7,8,8,8,8,8,8,8,8,8,8,8,8,8,8,8,8,8,8,8,8,8,8,8,8,8,8,8,8,8,8,8,8,8,8,8,8,8,8,8,8,8,8,8,8,8,8,8,8,8,8,8,8,8,8,8,8,8,8,8,8,8,8,8,8,8,8,8,8,8,8,8,8,8,8,8,8,8,8,8,8,8,8,8,8,8,8,8,8,8,8,8,8,8,8,8,8,8,8,8,8,8,8,8,8,8,8,8,8,8,8,8,8,8,8,8,8,8,8,8,8,8,8,8,8,8,8,8,8]⟩⟩
theorem qhA(v:AV):sy (.str ⟨⟨[0,1,2,2,3,3,3,3,4,4,4,4,4,4,4,4,5,5,5,5,5,5,5,5,5,5,5,5,5,5,5,5,6,6,6,6,6,6,6,6,6,6,6,6,6,6,6,6,6,6,6,6,6,6,6,6,6,6,6,6,6,6,6,6,7,7,7,7,7,7,7,7,7,7,7,7,7,7,7,7,7,7,7,7,7,7,7,7,7,7,7,7,7,7,7,7,7,7,7,7,7,7,7,7,7,7,7,7,7,7,7,7,7,7,7,7,7,7,7,7,7,7,7,7,7,7,7,7,8,8,8,8,8,8,8,8,8,8,8,8,8,8,8,8,8,8,8,8,8,8,8,8,8,8,8,8,8,8,8,8,8,8,8,8,8,8,8,8,8,8,8,8,8,8,8,8,8,8,8,8,8,8,8,8,8,8,8,8,8,8,8,8,8,8,8,8,8,8,8,8,8,8,8,8,8,8,8,8,8,8,8,8,8,8,8,8,8,8,8,8,8,8,8,8,8,8,8,8,8,8,8,8,8,8,8,8,8,8,8,8,8,8,8,8,8,8,8,8,8,8,8,8,8,8,8,8]⟩⟩) v=sy (.str Hl) v:=rfl
theorem qhz:∀x:Fin 256,(Hl[x.1]?).map (fun b=>b.toNat)=some (if x.1=0 then 0 else Nat.log2 x.1+1):=by decide +kernel
theorem Hk{x:Nat}(h:0<x)(h':x<256):sy (.str Hl) (.int .u8 x)=some (.int .u8 (Nat.log2 x+1:Nat)):=by
 have:=qhz ⟨x,h'⟩;simp only[ag (Nat.pos_iff_ne_zero.1 h)] at this;rw[sy,aj (by omega),nG]
 cases he:Hl[x]? with
 | none=>rw[he] at this;cases this
 | some b=>
  rw[he] at this;simp only[ar,bp] at this ⊢;rw[this]
theorem F9{a:Nat}{k:IntKind}(h:a<256):bF .u8 (.int k a)=some (.int .u8 a):=by
 rw[mH,show IntKind.wrap .u8 (a:Int)=(a:Int)%256 from rfl,Int.emod_eq_of_lt (by omega) (by omega)]
theorem F8{a:Nat}{k:IntKind}(h:a<9223372036854775808):bF .i64 (.int k a)=some (.int .i64 a):=by
 rw[mH,km (by omega) (by omega)]
theorem MC{x k:Nat}(h:2^k<=x):Nat.log2 x=Nat.log2 (x/2^k)+k:=by
 have hp:=uu k
 have hy:x/2^k≠0:=by
  have:0<x/2^k:=Nat.div_pos h hp;omega
 have h1:=Nat.log2_self_le hy;have h2:=Nat.lt_log2_self (n:=x/2^k)
 apply qhH
 .rw[qL];exact (Fl hp).1 h1
 .rw[show Nat.log2 (x/2^k)+k+1=Nat.log2 (x/2^k)+1+k by omega,qL];exact (vF hp).1 h2
theorem qke{tk:TK}{a:Nat}:af tk .shr (.int .u32 a) (.int .u64 16)=some (.int .u32 (a/65536:Nat)):=NY (s:=16) (by omega)
theorem W9{tk:TK}{a:Nat}:af tk .shr (.int .u32 a) (.int .u64 8)=some (.int .u32 (a/256:Nat)):=NY (s:=8) (by omega)
theorem Hn{x:Nat}(h:x<256):Nat.log2 x<8:=by
 by_cases h0:x=0
 .subst h0;decide
 .exact (Nat.log2_lt h0).2 h
theorem qce{x:Nat}(m:ae)(h:0<x)(h':x<4294967296):AC ab 140 [dg x] m=some (.int .i64 (Nat.log2 x+1:Nat),m):=by
 have g1:af .other .geq (dg x) (.int .u32 65536)=some (.bool (decide (x≥65536))):=Ht (b:=65536);have g2:∀y:Nat,af .other .geq (.int .u32 y) (.int .u32 256)=some (.bool (decide (y≥256))):=fun y=>Ht (b:=256);have g3:af .other .geq (dg x) (.int .u32 256)=some (.bool (decide (x≥256))):=Ht (b:=256);have a1:af .other .add (.int .i64 16) (.int .i64 8)=some (.int .i64 24):=rfl;have a2:af .other .add (.int .i64 0) (.int .i64 8)=some (.int .i64 8):=rfl;have b1:∀y:Nat,y<300->af .other .add (.int .i64 24) (.int .i64 y)=some (.int .i64 (24+y:Nat)):=fun y h=>lQ (a:=24) (by omega);have b2:∀y:Nat,y<300->af .other .add (.int .i64 16) (.int .i64 y)=some (.int .i64 (16+y:Nat)):=fun y h=>lQ (a:=16) (by omega);have b3:∀y:Nat,y<300->af .other .add (.int .i64 8) (.int .i64 y)=some (.int .i64 (8+y:Nat)):=fun y h=>lQ (a:=8) (by omega);have b4:∀y:Nat,y<300->af .other .add (.int .i64 0) (.int .i64 y)=some (.int .i64 (0+y:Nat)):=fun y h=>lQ (a:=0) (by omega);have s1:af .other .shr (dg x) (.int .u64 16)=some (.int .u32 (x/65536:Nat)):=qke;have s2:af .other .shr (dg x) (.int .u64 8)=some (.int .u32 (x/256:Nat)):=W9
 have k0:bF .u8 (dg x)=if x<256 then some (.int .u8 x) else bF .u8 (dg x):=by
  split
  .rename_i h;exact F9 h
  .rfl
 rw[qcd];simp only[qhA,g1,g2,g3,a1,a2,s1,s2,aa,aw,W9]
 by_cases c1:x≥65536
 .rw[aj c1];have e1:=MC (x:=x) (k:=16) (by omega);rw[show 2^16=65536 from rfl] at e1
  by_cases c2:x/65536≥256
  .rw[aj c2];have e2:=MC (x:=x/65536) (k:=8) (by omega);rw[show 2^8=256 from rfl] at e2;have l8:=Hn (x:=x/65536/256) (by omega);rw[F9 (by omega),aa,Hk (by omega) (by omega),aa,F8 (by omega),aa,b1 _ (by omega),aa];congr 4;omega
  .rw[ag c2];have l8:=Hn (x:=x/65536) (by omega);rw[F9 (by omega),aa,Hk (by omega) (by omega),aa,F8 (by omega),aa,b2 _ (by omega),aa];congr 4;omega
 .rw[ag c1]
  by_cases c2:x≥256
  .rw[aj c2];have e2:=MC (x:=x) (k:=8) (by omega);rw[show 2^8=256 from rfl] at e2;have l8:=Hn (x:=x/256) (by omega);rw[F9 (by omega),aa,Hk (by omega) (by omega),aa,F8 (by omega),aa,b3 _ (by omega),aa];congr 4;omega
  .rw[ag c2];have l8:=Hn (x:=x) (by omega);rw[k0,aj (by omega),aa,Hk (by omega) (by omega),aa,F8 (by omega),aa,b4 _ (by omega),aa];congr 4;omega
theorem QP{x:Nat}(h:0<x)(h':x<4294967296):AP ab 140 [dg x]=some (.int .i64 (Nat.log2 x+1:Nat)):=
 jE (qce [] h h') (eK _ _ _) (by simp[gV])
theorem qcr{x:Nat}(h:0<x)(h':x<4294967296):AP ab 137 [dg x]=some (.int .i64 (lz x:Nat)):=by
 have hl:Nat.log2 x<32:=(Nat.log2_lt (by omega)).2 h';refine jE (m:=[]) ?_ (eK _ _ _) (by simp[gV]);rw[qcb,dW (a:=dg x) (a':=dg x) (eK .u32 x),QP h h'];simp only[ar,aa];have e:af .other .sub (.int .i64 32) (.int .i64 (Nat.log2 x+1:Nat))=some (.int .i64 (32-(Nat.log2 x+1):Nat)):=yE (a:=32) (by omega) (by omega);have e2:32-(Nat.log2 x+1)=lz x:=by rw[lz];omega
 rw[e,e2]
 rfl
end Go.Ab
namespace Go.Ab
open Go.Proofs.Try
theorem qcK(v:NV)(u:List Nat)(m:ae)(K:KT)(x9 bo:AV)(nu L n j top v1 v2 u0 p lo vlo q:Nat)
  (hn:v.ds.length=n) (pV:2<=n) (hm:m[nu]?=some (oc u)) (hL:u.length=L) (xY:L<2^42) (Ay:j+n<L) (du:Dg u) (dv:Dg v.ds)
  (e1:v.ds.getD (n-1) 0=v1) (e2:v.ds.getD (n-2) 0=v2) (e3:u.getD (j+n-2) 0=u0)
  (tL:2147483648<=v1) (rh:top<=v1*4294967296+4294967295) (eV:lo<p) (T9:vlo<p)
  (hq:q=((top*4294967296+u0)*p+lo)/((v1*4294967296+v2)*p+vlo)) (hqB:q<4294967296) :
  ∀k g r:Nat,4294967296<=r+k*v1->r<4294967296->g*v1+r=top->q<=g ->
  ∃g',q<=g'/\g'<4294967296/\g'*((v1*4294967296+v2)*p+vlo)<((top*4294967296+u0)*p+lo)+((v1*4294967296+v2)*p+vlo) /\
   zx x9 (.arr nu 0 L none) v.av (.int .i64 n) bo (.int .i64 j) (.int .u64 g) (.int .u64 r) m K
    = K (.exit 3) (xy x9 (.arr nu 0 L none) v.av (.int .i64 n) bo (.int .i64 j) (.int .u64 g') m):=by
 have qkC:v1<4294967296:=e1▸dv (n-1);have qhi:v2<4294967296:=e2▸dv (n-2);have qhh:u0<4294967296:=e3▸du (j+n-2);intro k
 induction k with
 | zero=>intro g r h1 h2;omega
 | succ k ih=>
  intro g r h1 h2 h3 h4
  have hgB:g<4294967296+2:=by
   have:g*v1<(4294967296+2)*v1:=by omega
   exact Fm this
  have CU:g*v2<=4294967297*4294967295:=il (by omega) (by omega)
  have dec:q<g->∃g',q<=g'/\g'<4294967296/\g'*((v1*4294967296+v2)*p+vlo)<((top*4294967296+u0)*p+lo)+((v1*4294967296+v2)*p+vlo) /\
    (if r+v1≥4294967296 then K (.exit 3) (xy x9 (.arr nu 0 L none) v.av (.int .i64 n) bo (.int .i64 j) (.int .u64 (g-1:Nat)) m)
     else zx x9 (.arr nu 0 L none) v.av (.int .i64 n) bo (.int .i64 j) (.int .u64 (g-1:Nat)) (.int .u64 (r+v1:Nat)) m K)
    = K (.exit 3) (xy x9 (.arr nu 0 L none) v.av (.int .i64 n) bo (.int .i64 j) (.int .u64 g') m):=by
   intro TV;obtain ⟨g1,CT⟩:∃g1,g=g1+1:=⟨g-1,by omega⟩;subst CT;rw[fI,nH] at h3;rw[ti]
   by_cases hb:r+v1≥4294967296
   .rw[aj hb]
    have aG:g1<4294967296:=by
     have:g1*v1<4294967296*v1:=by omega
     exact Fm this
    refine ⟨g1,by omega,aG,?_,rfl⟩;have h5:g1*v2<=4294967296*4294967295:=il (by omega) (by omega);exact SN (r:=r+v1) (top:=top) (u0:=u0) (by omega) (by omega) aG T9 (by omega) rfl rfl
   .rw[ag hb];rw[fI] at h1;exact ih g1 (r+v1) (by omega) (by omega) (by omega) (by omega)
  rw[qba];simp (disch:=omega) only[qh2,aa,aw,Ip,tP,lR,j7,mE,nU,e1]
  by_cases c1:g≥4294967296
  .rw[aj c1];exact dec (by omega)
  .rw[ag c1];simp (disch:=omega) only[Ug,aa,lR,j7,e2]
   rw[mE v2 qhi,aa,DZ (by omega),aa,D1 (by omega),aa,lQ (by omega),aa,Ug (by omega) (by omega),aa,kP (by omega),aa,
    sC hm (by omega),aa,e3,mE u0 qhh,aa,D0 (by omega) (by omega),aa,DE,aa,aw]
   by_cases c2:g*v2>r*4294967296+u0
   .have TV:=qgi (q:=q) (vlo:=vlo) h3 c2 eV (by rw[hq];exact Nat.div_mul_le_self _ _);rw[aj c2,Ip (by omega) (by omega),aa];exact dec TV
   .rw[ag c2];exact ⟨g,h4,by omega,SN h3 (vG c2) (by omega) T9 (by omega) rfl rfl,rfl⟩
theorem qcL(v:NV)(u:List Nat)(m0:ae)(K:KT)(x9 bo:AV)(nu L n j g:Nat)
  (hn:v.ds.length=n) (hm:m0[nu]?=some (oc u)) (hL:u.length=L) (xY:L<2^42) (Ay:j+n<L) (du:Dg u) (dv:Dg v.ds) (hg:g<4294967296):∀r i:Nat,i+r=n ->
  BN x9 (.arr nu 0 L none) v.av (.int .i64 n) bo (.int .i64 j) (.int .u64 g) (.int .u64 (iS v.ds g j i u).2.1) (.int .u64 (iS v.ds g j i u).2.2) (.int .i64 n) (.int .i64 i) (m0.set nu (oc (iS v.ds g j i u).1)) K
   = K (.exit 5) (JI x9 (.arr nu 0 L none) v.av (.int .i64 n) bo (.int .i64 j) (.int .u64 g) (.int .u64 (iS v.ds g j n u).2.1) (.int .u64 (iS v.ds g j n u).2.2) (m0.set nu (oc (iS v.ds g j n u).1))):=by
 have L3:nu<m0.length:=by
  apply jv;intro h;rw[iC (by omega)] at hm;cases hm
 intro r
 induction r with
 | zero=>
  intro i hi;have:i=n:=by omega
  subst this;rw[PE];simp[gw,au]
 | succ r ih=>
  intro i hi;have ih:=ih (i+1) (by omega);have hlen:=DB v.ds g j u i;have hb:=DA v.ds g j u i;have hc:=Hr dv hg j u i;have hd:=Hs (v:=v.ds) (g:=g) du j i (i+j);have hvd:=dv i;have CU:g*v.ds.getD i 0<=4294967295*4294967295:=il (by omega) (by omega);have s1:af .other .shl (.int .u64 1) (.int .u64 32)=some (.int .u64 (4294967296:Nat)):=rfl;have s0:af .other .shl (.int .u64 0) (.int .u64 32)=some (.int .u64 (0:Nat)):=rfl;rw[PE];simp only[iS] at ih;generalize iS v.ds g j i u=t at *;obtain ⟨t,b,c⟩:=t;simp only[] at *;have aQ:(m0.set nu (oc t))[nu]?=some (oc t):=jF L3;simp (disch:=omega) only[bR,aa,aw,aj,lR,j7,mE,DZ,nU,qkg,lQ,kP,sC aQ,Io,eF]
  by_cases h:t.getD (i+j) 0<(c+g*v.ds.getD i 0)%4294967296+b
  .rw[aj h];rw[aj h] at ih;rw[s1,aa,nU (by omega),aa,zh (by omega) (by omega),aa,mF,aa,ku (by omega),oZ aQ (by omega),List.set_set];exact ih
  .rw[ag h];rw[ag h] at ih;rw[s0,aa,nU (by omega),aa,zh (by omega) (by omega),aa,mF,aa,ku (by omega),oZ aQ (by omega),List.set_set];exact ih
theorem qcM(v:NV)(u:List Nat)(m0:ae)(K:KT)(x9 bo gj:AV)(nu L n j:Nat)
  (hn:v.ds.length=n) (hm:m0[nu]?=some (oc u)) (hL:u.length=L) (xY:L<2^42) (Ay:j+n<L) (du:Dg u) (dv:Dg v.ds):∀r i:Nat,i+r=n ->
  ES x9 (.arr nu 0 L none) v.av (.int .i64 n) bo (.int .i64 j) gj (.int .u64 (jT v.ds j i u).2) (.int .i64 n) (.int .i64 i) (m0.set nu (oc (jT v.ds j i u).1)) K
   = K (.exit 7) (JJ x9 (.arr nu 0 L none) v.av (.int .i64 n) bo (.int .i64 j) gj (.int .u64 (jT v.ds j n u).2) (m0.set nu (oc (jT v.ds j n u).1))):=by
 have L3:nu<m0.length:=by
  apply jv;intro h;rw[iC (by omega)] at hm;cases hm
 intro r
 induction r with
 | zero=>
  intro i hi;have:i=n:=by omega
  subst this;rw[PF];simp[gw,au]
 | succ r ih=>
  intro i hi;have ih:=ih (i+1) (by omega);have hlen:=B8 v.ds j u i;obtain ⟨hd,hc⟩:=FZ dv du j i;have hd:=hd (i+j);have hvd:=dv i;rw[PF];simp only[jT] at ih;generalize jT v.ds j i u=t at *;obtain ⟨t,c⟩:=t;simp only[] at *;have aQ:(m0.set nu (oc t))[nu]?=some (oc t):=jF L3;simp (disch:=omega) only[bR,aa,aw,aj,lR,j7,mE,nU,lQ,kP,sC aQ,Io,eF,mF,oZ aQ,List.set_set];exact ih
theorem qkh{tk:TK}{t y:Nat}(ht:t<4294967296)(hy:y<=4294967296):∃w,af tk .sub (.int .u64 t) (.int .u64 y)=some w/\bF .u32 w=some (.int .u32 ((t+4294967296-y)%4294967296:Nat)):=by
 refine ⟨_,qu _ _ _ _,?_⟩;rw[mH,xg,Xt];congr 2;omega
theorem qhs{v u:List Nat}{n j:Nat}(hv:Dg v)(hu:Dg u)(hn:v.length=n)(pV:2<=n) :
  val v=(v.getD (n-1) 0*4294967296+v.getD (n-2) 0)*4294967296^(n-2)+vs v (n-2) /\
  wn u j (n+1)=((u.getD (j+n) 0*4294967296+u.getD (j+n-1) 0)*4294967296+u.getD (j+n-2) 0)*4294967296^(n-2)+wn u j (n-2):=by
 obtain ⟨k,rfl⟩:∃k,n=k+2:=⟨n-2,by omega⟩;have e1:k+2-1=k+1:=by omega
 have e2:k+2-2=k:=by omega
 have e3:j+(k+2)-1=j+(k+1):=by omega
 have e4:j+(k+2)-2=j+k:=by omega
 rw[e1,e2,e3,e4]
 constructor
 .rw[<- iW (Nat.le_of_eq hn),ju,ju,jS,fI,en (4294967296^k) (v.getD k 0),en (4294967296^k*4294967296),en (4294967296^k),gQ];omega
 .rw[wn,wn,wn,jS (m:=k+1),jS];rw[fI,fI,fI,en (4294967296^k) (u.getD (j+k) 0),en (4294967296^k*4294967296) (u.getD (j+(k+1)) 0),en (4294967296^k*4294967296*4294967296),en (4294967296^k),];generalize 4294967296^k=p;have h1:u.getD (j+(k+1)) 0*(4294967296*p)=u.getD (j+(k+1)) 0*4294967296*p:=(gQ _ _ _).symm
  have h2:u.getD (j+(k+2)) 0*(4294967296*p*4294967296)=u.getD (j+(k+2)) 0*4294967296*4294967296*p:=by
   rw[Nat.mul_right_comm 4294967296 p,<- gQ,<- gQ]
  rw[h1,h2];omega
theorem qhr{v u0 u q:List Nat}{n m j:Nat}(hv:Dg v)(hn:v.length=n)(pV:2<=n)(h:KInv v u0 n m (j+1) u q) :
  u.getD (j+n) 0<=v.getD (n-1) 0/\wn u j (n+1)/val v<4294967296/\0<val v:=by
 have aG:=h.lt;have hp:0<val v:=by omega
 obtain ⟨k,rfl⟩:∃k,n=k+1:=⟨n-1,by omega⟩;have hV:val v=vs v k+4294967296^k*v.getD k 0:=by rw[<- iW (Nat.le_of_eq hn),ju]
 have h1:=xf hv k
 refine ⟨?_,?_,hp⟩
 .rw[ti];rw[wn,show j+1+k=j+(k+1) by omega] at aG;apply vG;intro hc;have:4294967296^k*(v.getD k 0+1)<=4294967296^k*u.getD (j+(k+1)) 0:=kU _ hc;rw[fL] at this;omega
 .rw[vF hp,Eb];have h2:=h.du j;omega
theorem qf0{top u0 v1 v2 p lo vlo:Nat}(tL:0<v1)(eV:lo<p)(hu:u0<4294967296) :
  ((top*4294967296+u0)*p+lo)/((v1*4294967296+v2)*p+vlo)<=top/v1:=by
 have h:=Nat.div_mul_le_self ((top*4294967296+u0)*p+lo) ((v1*4294967296+v2)*p+vlo);generalize ((top*4294967296+u0)*p+lo)/((v1*4294967296+v2)*p+vlo)=q at *;rw[Fl tL]
 have h1:(top*4294967296+u0)*p+lo<(top+1)*4294967296*p:=by
  have:(top*4294967296+u0+1)*p<=(top+1)*4294967296*p:=fW _ (by omega);rw[fI _ 1,nH] at this;omega
 have h2:q*v1*4294967296*p<=q*((v1*4294967296+v2)*p+vlo):=by
  rw[gQ q,gQ q];exact kU _ (b7 (fW _ (Nat.le_add_right _ _)) (Nat.le_add_right _ _))
 have h3:q*v1*4294967296*p<(top+1)*4294967296*p:=by omega
 have h4:=Fm (Fm h3);omega
def M3(u q:List Nat):ae:=[oc u,none,oc q]
theorem qcJ(v:NV)(u0:List Nat)(K:KT)(x9:AV)(L n mm:Nat)
  (hn:v.ds.length=n) (pV:2<=n) (dv:Dg v.ds) (hL:L=mm+n) (xY:L<2^42) (tL:2147483648<=v.ds.getD (n-1) 0):∀(j:Nat) (u q:List Nat),j<=mm->KInv v.ds u0 n mm j u q ->
  ∃u' q',KInv v.ds u0 n mm 0 u' q'/\BM x9 (.arr 0 0 L none) v.av (.int .i64 n) (.arr 2 0 mm none) (.int .i64 ((j:Int)-1)) (M3 u q) K
   = K (.exit 1) (JH x9 (.arr 0 0 L none) (.int .i64 n) (.arr 2 0 mm none) (M3 u' q')):=by
 intro j
 induction j with
 | zero=>
  intro u q _ hI;refine ⟨u,q,hI,?_⟩;rw[PD];simp[o9,au]
 | succ j ih=>
  intro u q hj hI;have hu:=hI.du;have TH:=hI.lu;have yn:=hI.lq;obtain ⟨p1,p2,p3⟩:=qhr dv hn pV hI;obtain ⟨t1,t2⟩:=qhs (j:=j) dv hu hn pV;have d1:=hu (j+n);have d2:=hu (j+n-1);have d3:=dv (n-1);have aQ:(M3 u q)[0]?=some (oc u):=rfl;have xZ:=p3;rw[PD,show ((j+1:Nat):Int)-1=(j:Nat) by omega];simp (disch:=omega) only[DD,aa,au,lQ,kP,sC aQ,mE,D1,tP,D0,lR,j7,zg,Bl];have j0:=xf dv (n-2);have Ua:=zl hu j (n-2);have hdm:=rO (u.getD (j+n) 0*4294967296+u.getD (j+n-1) 0) (v.ds.getD (n-1) 0);have hrm:(u.getD (j+n) 0*4294967296+u.getD (j+n-1) 0)%v.ds.getD (n-1) 0<v.ds.getD (n-1) 0:=jx _ (by omega);have hq:wn u j (n+1)/val v.ds=(((u.getD (j+n) 0*4294967296+u.getD (j+n-1) 0)*4294967296+u.getD (j+n-2) 0)*4294967296^(n-2)+wn u j (n-2))/((v.ds.getD (n-1) 0*4294967296+v.ds.getD (n-2) 0)*4294967296^(n-2)+vs v.ds (n-2)):=by rw[t1,t2]
  have hle:u.getD (j+n) 0*4294967296+u.getD (j+n-1) 0<=v.ds.getD (n-1) 0*4294967296+4294967295:=by omega
  have h0:4294967296<=(u.getD (j+n) 0*4294967296+u.getD (j+n-1) 0)%v.ds.getD (n-1) 0+2*v.ds.getD (n-1) 0:=by omega
  have h1:(u.getD (j+n) 0*4294967296+u.getD (j+n-1) 0)%v.ds.getD (n-1) 0<4294967296:=by omega
  have h2:(u.getD (j+n) 0*4294967296+u.getD (j+n-1) 0)/v.ds.getD (n-1) 0*v.ds.getD (n-1) 0+(u.getD (j+n) 0*4294967296+u.getD (j+n-1) 0)%v.ds.getD (n-1) 0=u.getD (j+n) 0*4294967296+u.getD (j+n-1) 0:=by rw[en];exact hdm
  have h3:wn u j (n+1)/val v.ds<=(u.getD (j+n) 0*4294967296+u.getD (j+n-1) 0)/v.ds.getD (n-1) 0:=by
   rw[t1,t2];exact qf0 (by omega) Ua (hu _)
  obtain ⟨g,g1,g2,g3,g4⟩:=qcK v u (M3 u q) (I6 K) x9 (.arr 2 0 mm none) 0 L n j (u.getD (j+n) 0*4294967296+u.getD (j+n-1) 0) (v.ds.getD (n-1) 0) (v.ds.getD (n-2) 0) (u.getD (j+n-2) 0) (4294967296^(n-2)) (wn u j (n-2)) (vs v.ds (n-2))
   (wn u j (n+1)/val v.ds) hn pV aQ (by omega) xY (by omega) hu dv rfl rfl rfl tL hle Ua j0 hq p2 2 ((u.getD (j+n) 0*4294967296+u.getD (j+n-1) 0)/v.ds.getD (n-1) 0) ((u.getD (j+n) 0*4294967296+u.getD (j+n-1) 0)%v.ds.getD (n-1) 0) h0 h1 h2 h3
  rw[<- t1,<- t2] at g3;obtain ⟨s1,s2,s3,s4,s5⟩:=qhq dv hu hn (by omega) g2 p3 g1 g3;have CH:=KInv.step dv hn (by omega) hI s1 s2 s3 s4 s5 p3;have yf:=CH.dq j;have qky:=CH.lq;rw[qV (by omega)] at yf;obtain ⟨u',q',i1,i2⟩:=ih _ _ (by omega) CH;refine ⟨u',q',i1,g4.trans ?_⟩;rw[Y4];have m0:=qcL v u (M3 u q) (I7 K) x9 (.arr 2 0 mm none) 0 L n j g hn aQ (by omega) xY (by omega) hu dv g2 n 0 (by omega)
  refine Eq.trans ?_ (m0.trans ?_)
  .rfl
  rw[Y8];have hb:=DA v.ds g j u n;have hc:=Hr dv g2 j u n;have hd:=Hs (v:=v.ds) (g:=g) hu j n;have hl:=DB v.ds g j u n;have qhj:=MN (v:=v.ds) (g:=g) hu j n (by omega);unfold yF at i2 yf;simp only[] at i2 yf;generalize iS v.ds g j n u=t at *;obtain ⟨t,b,c⟩:=t;simp only[] at *;have hM:(M3 u q).set 0 (oc t)=M3 t q:=rfl;have Tp:(M3 t q)[0]?=some (oc t):=rfl;have Mj:∀l r:List Nat,(M3 l q).set 0 (oc r)=M3 r q:=fun _ _=>rfl;have Aw:∀l r:List Nat,(M3 l r)[2]?=some (oc r):=fun _ _=>rfl;have C7:∀l r p:List Nat,(M3 l r).set 2 (oc p)=M3 l p:=fun _ _ _=>rfl;rw[hM];have sc:=hd (j+n);obtain ⟨w,w1,w2⟩:=qkh (tk:=.other) (t:=t.getD (j+n) 0) (y:=c+b) sc (by omega);simp (disch:=omega) only[nU,aa,lQ,kP,sC Tp,mE,bR,w1,w2,oZ Tp,Mj];rw[aw]
  by_cases ph:t.getD (j+n) 0<c+b
  .rw[aj ph];rw[aj ph] at i2 yf;have At:Dg (t.set (j+n) (t.getD (j+n) 0+4294967296-(c+b))):=hd.set _ _ (by omega);have m1:=qcM v (t.set (j+n) (t.getD (j+n) 0+4294967296-(c+b))) (M3 (t.set (j+n) (t.getD (j+n) 0+4294967296-(c+b))) q) (I8 K) x9 (.arr 2 0 mm none) (.int .u64 (g-1:Nat)) 0 L n j hn rfl (by rw[eB];omega) xY (by omega) At dv n 0 (by omega);have ha:=FZ dv At j n;have kW:=B8 v.ds j (t.set (j+n) (t.getD (j+n) 0+4294967296-(c+b))) n
   have Tm:0<g:=by
    apply na;intro e0;rw[e0,qM,jo] at qhj;have aG:=zl hd j n;have h9:4294967296^n*1<=4294967296^n*(c+b):=kU _ (by omega);omega
   rw[show (t.getD (j+n) 0+4294967296-(c+b))%4294967296=t.getD (j+n) 0+4294967296-(c+b) by omega,Ip (by omega) (by omega),aa];rw[eB] at kW
   refine Eq.trans ?_ (m1.trans ?_)
   .rfl
   generalize jT v.ds j n (t.set (j+n) (t.getD (j+n) 0+4294967296-(c+b)))=w at *;obtain ⟨w,x⟩:=w;simp only[] at *;obtain ⟨a1,a2⟩:=ha;rw[Mj,Zc];have Tq:(M3 w q)[0]?=some (oc w):=rfl
   rw[lQ (by omega),aa,kP (by omega),aa,sC Tq (by omega),aa,mF,aa,ku (by omega:x<4294967296),dg,qkc,aa,aa,
    oZ Tq (by omega),Mj,aa,mF,aa,kP (by omega),aa,oZ (Aw _ _) (by omega),C7,aa,qA (by omega),aa]
   rw[ku (by omega:g-1<4294967296)];exact i2
  .rw[ag ph];rw[ag ph] at i2 yf;rw[mF,aa,oZ (Aw _ _) (by omega),C7,aa,qA (by omega),aa];rw[show (t.getD (j+n) 0+4294967296-(c+b))%4294967296=t.getD (j+n) 0-(c+b) by omega,ku g2];exact i2
theorem qcN(u q:List Nat)(K:KT)(bo:AV)(s L n:Nat)(du:Dg u)(hL:u.length=L)(xY:L<2^42)(hn:n<L)(hs:s<32):∀r i:Nat,i+r=n ->
  BO (.int .u64 s) (.arr 0 0 L none) bo (.arr 3 0 n none) (.int .i64 n) (.int .i64 i) (M3 u q++[oc (lp u s i++List.replicate r 0)]) K
   = K (.exit 9) (JK bo (.arr 3 0 n none) (M3 u q++[oc (lp u s n)])):=by
 intro r
 induction r with
 | zero=>
  intro i hi;have:i=n:=by omega
  subst this;rw[PG];simp[gw,au]
 | succ r ih=>
  intro i hi;have ih:=ih (i+1) (by omega);have hlen:=D3 u s i;have iP:=du i;have jz:=du (i+1);have b1:=Xd hs iP;have b2:=Xc (y:=u.getD (i+1) 0) hs iP;have b3:u.getD (i+1) 0*2^(32-s)%4294967296%2^(32-s)=0:=by rw[N3 hs,Nat.mul_mod_left]
  have GR:∀l,(M3 u q++[oc l])[0]?=some (oc u):=fun _=>rfl;have Aw:∀l,(M3 u q++[oc l])[3]?=some (oc l):=fun _=>rfl;have C7:∀l l',(M3 u q++[oc l]).set 3 (oc l')=M3 u q++[oc l']:=fun _ _=>rfl
  have tH:∀x,(lp u s i++List.replicate (r+1) 0).set i x=lp u s i++x::List.replicate r 0:=by
   intro x;rw[qK _ _ (by omega),hlen,oE,zP,bk]
  have qg3:∀x y,(lp u s i++x::List.replicate r 0).set i y=lp u s i++y::List.replicate r 0:=by
   intro x y;rw[qK _ _ (by omega),hlen,oE,bk]
  have qg4:∀x,(lp u s i++x::List.replicate r 0).getD i 0=x:=by
   intro x;rw[bA,vE (by omega),hlen,oE]
   rfl
  have jB:i<(lp u s i++List.replicate (r+1) 0).length:=by rw[aK,hlen,rM];omega
  have pn:∀x,i<(lp u s i++x::List.replicate r 0).length:=by intro x;rw[aK,hlen,aR,rM];omega
  rw[lp,vC,bm,aZ] at ih
  rw[PG,bR,aa,aw,aj (by omega),kP (by omega),aa,sC (GR _) (by omega),aa,dg,NY hs,aa,kP (by omega),aa,
   oZ (Aw _) jB,C7,tH,aa,sF,aa,aw]
  by_cases h0:s>0
  .rw[aj h0];have e32:af .other .sub (.int .u64 32) (.int .u64 s)=some (.int .u64 (32-s:Nat)):=zh (a:=32) (by omega) (by omega)
   rw[aa,sC (Aw _) (pn _),aa,qg4,eF (by omega),aa,kP (by omega),aa,sC (GR _) (by omega),aa,e32,aa,dg,dg,W8 (by omega) jz,aa,
    W5 b1 b3 b2,aa,aa,oZ (Aw _) (pn _),C7,qg3,aa,aa]
   exact ih
  .rw[ag h0,eF (by omega),aa];have qz:s=0:=by omega
   subst qz;rw[show u.getD (i+1) 0*2^(32-0)%4294967296=0 from Nat.mul_mod_left _ _,jo] at ih;exact ih
end Go.Ab
namespace Go.Ab
open Go.Proofs.Try
def lG(x y:NV):NV:=if x.v<y.v then ⟨true,.full,[]⟩ else ⟨false,.no,an (x.v/y.v)⟩
def oH(x y:NV):NV:=if x.v<y.v then ⟨x.z,sG x.v,an x.v⟩ else if y.v<4294967296 then ⟨false,sG (x.v%y.v),an (x.v%y.v)⟩ else ⟨false,.no,an (x.v%y.v)⟩
theorem Gm(x y:NV):(lG x y).ds=an (x.v/y.v):=by
 unfold lG
 split
 .rename_i h;rw[zQ h,jK]
 .rfl
theorem Gp(x y:NV):(oH x y).ds=an (x.v%y.v):=by
 unfold oH
 split
 .rename_i h;rw[ku h]
 .split<;>rfl
theorem kD{a b:Nat}(h:a<=b):(an a).length<=(an b).length:=by
 have:=mY (eU b);rw[fG] at this;exact tv (jG h this)
theorem NOk.v_len{x:NV}(h:NOk x):(an x.v).length<=x.ds.length:=R9 h.dg
theorem NOk.v_len'{x:NV}(h:NOk x):(an x.v).length<2^40:=jG h.v_len h.len
theorem NOk.z_v{x:NV}(h:NOk x):x.z=true->an x.v=[]:=by
 intro hz;rw[NV.v,h.nil hz];exact jK
theorem Sb{x y:NV}(hx:NOk x):NOk (lG x y):=by
 refine ⟨by rw[Gm];exact eU _,?_,?_⟩
 .rw[Gm];exact jG (kD (BX _ _)) hx.v_len'
 .unfold lG
  split
  .intro _;rfl
  .intro h;cases h
theorem qfE{x y:NV}(hx:NOk x):NOk (oH x y):=by
 refine ⟨by rw[Gp];exact eU _,?_,?_⟩
 .rw[Gp];exact jG (kD (Nat.mod_le _ _)) hx.v_len'
 .unfold oH
  split
  .exact hx.z_v
  .split<;>(intro h;cases h)
theorem HI(n:Nat):(sG n).fr=sG n:=by unfold sG;split<;>rfl
theorem Cs(x y:NV):(lG x y).fr=lG x y:=by unfold lG;split<;>rfl
theorem Gq(x y:NV):(oH x y).fr=oH x y:=by
 unfold oH
 split
 .simp only[NV.fr,HI]
 .split
  .simp only[NV.fr,HI]
  .rfl
theorem KQ(x y:NV):(oH x y).v=x.v%y.v:=by rw[NV.v,Gp,fG]
def Gr(x y:NV):AV:=if y.v=0 then .tup [AM,AM,.int .i64 31] else .tup [(lG x y).av,(oH x y).av,.int .i64 0]
theorem mK{n:Nat}:(an n).length=0↔n=0:=by rw[List.length_eq_zero_iff];exact D9
theorem Gk{n:Nat}:(an n).length=1↔n≠0/\n<4294967296:=by
 constructor
 .intro h;have h1:=mY (eU n);rw[fG,h] at h1;exact ⟨fun e=>by rw[e,jK] at h;simp at h,by simpa using h1⟩
 .intro ⟨h,h'⟩;have h1:=tv (k:=1) (n:=n) (by simpa using h');have h2:(an n).length≠0:=fun e=>h (mK.1 e);omega
theorem Cr{n:Nat}(h:n≠0):(an n).getD ((an n).length-1) 0≠0:=by
 intro e;have h1:pe (an n)=true:=by rw[pe,fG];exact nd rfl
 rw[<- Nv (eU n),wS] at h1;have h2:¬ (an n).length=0:=fun e=>h (mK.1 e);rw[e] at h1;simp[h2] at h1
theorem Uy{t:Nat}(h:0<t)(h':t<4294967296):lz t<32/\2147483648<=t*2^lz t/\t*2^lz t<4294967296:=by
 have hl:Nat.log2 t<32:=(Nat.log2_lt (by omega)).2 h';have h1:=Nat.log2_self_le (n:=t) (by omega);have h2:=Nat.lt_log2_self (n:=t);unfold lz;generalize Nat.log2 t=k at *;have e:2^k*2^(31-k)=2147483648:=by rw[<- qL,show k+(31-k)=31 by omega]
 have e2:2^(k+1)*2^(31-k)=4294967296:=by rw[<- qL,show k+1+(31-k)=32 by omega]
 refine ⟨by omega,?_,?_⟩
 .rw[<- e];exact fW _ h1
 .rw[<- e2];exact Nat.mul_lt_mul_of_pos_right h2 (uu _)
theorem qjq{b:Nat}{n:Nat}(hn:(an b).length=n)(pV:1<=n)(hs:lz ((an b).getD (n-1) 0)<32) :
  (an (2^lz ((an b).getD (n-1) 0)*b)).length=n/\2147483648<=(an (2^lz ((an b).getD (n-1) 0)*b)).getD (n-1) 0:=by
 have hb:b≠0:=by intro e;rw[e,jK] at hn;simp at hn;omega
 have wx:=Cr hb;rw[hn] at wx;have hd:=eU b (n-1);obtain ⟨s1,s2,s3⟩:=Uy (na wx) hd;obtain ⟨k,rfl⟩:∃k,n=k+1:=⟨n-1,by omega⟩;rw[ti] at *;have hv:b=vs (an b) k+4294967296^k*(an b).getD k 0:=by rw[<- ju,iW (Nat.le_of_eq hn),fG]
 have eV:=xf (eU b) k;generalize (an b).getD k 0=t at *;generalize vs (an b) k=l at *;generalize lz t=s at *;have hp:=uu s
 have aG:2^s*b<4294967296^(k+1):=by
  have h1:b<4294967296^k*(t+1):=by rw[fL];omega
  have h4:(t+1)*2^s<=4294967296:=by
   have hpw:2^s*2^(32-s)=4294967296:=yW s1;rw[<- hpw,en] at s3 ⊢;have:=Nat.lt_of_mul_lt_mul_left s3;exact kU _ this
  have h2:2^s*b<2^s*(4294967296^k*(t+1)):=Nat.mul_lt_mul_of_pos_left h1 hp;have h3:2^s*(4294967296^k*(t+1))=4294967296^k*((t+1)*2^s):=by rw[Nat.mul_left_comm,en (2^s)]
  have h5:4294967296^k*((t+1)*2^s)<=4294967296^k*4294967296:=kU _ h4;rw[jS];omega
 have To:4294967296^k*(t*2^s)<=2^s*b:=by
  rw[en t,Nat.mul_left_comm];exact kU _ (by omega)
 have wy:=tv aG
 have LU:k<(an (2^s*b)).length:=by
  apply jv;intro hc;have h1:=mY (eU (2^s*b));rw[fG] at h1;have h2:4294967296^(an (2^s*b)).length<=4294967296^k:=qp (by omega) (by omega);have h3:4294967296^k*1<=4294967296^k*(t*2^s):=kU _ (by omega);omega
 refine ⟨by omega,?_⟩;have T6:2^s*b=vs (an (2^s*b)) k+4294967296^k*(an (2^s*b)).getD k 0:=by rw[<- ju,iW (by omega),fG]
 have TE:=xf (eU (2^s*b)) k;generalize (an (2^s*b)).getD k 0=y at *;generalize vs (an (2^s*b)) k=l2 at *;apply jv;intro hc;have h1:4294967296^k*(y+1)<=4294967296^k*(t*2^s):=kU _ (by omega);rw[fL] at h1;omega
theorem qhu{v u0:List Nat}{n m:Nat}(du:Dg u0)(hu:u0.length=m+n)(aG:wn u0 m n<val v):KInv v u0 n m m u0 (List.replicate m 0) where
 du:=du
 lu:=hu
 dq:=xP m
 lq:=rM
 hi:=by
  intro k hk;exact xW (by omega)
 lo:=fun _ _=>rfl
 lt:=aG
 eq:=by rw[oE,wn,qM,aL,Nat.add_sub_cancel_left]
theorem qjZ{u v:List Nat}{n m:Nat}(hu:Dg u)(hn:v.length=n)(pV:1<=n)(h:u.getD (m+n-1) 0<v.getD (n-1) 0):wn u m n<val v:=by
 obtain ⟨k,rfl⟩:∃k,n=k+1:=⟨n-1,by omega⟩;rw[ti,show m+(k+1)-1=m+k by omega] at h;have h1:=zl hu m k;have h2:4294967296^k*(u.getD (m+k) 0+1)<=4294967296^k*v.getD k 0:=kU _ h;rw[wn,<- iW (Nat.le_of_eq hn),ju];rw[fL] at h2;omega
theorem Kl{x y:NV}(hx:NOk x)(hy:NOk y):AP ab 125 [x.av,y.av]=some (Gr x y):=by
 have lx:=hx.v_len';have ly:=hy.v_len';have hX:NOk ⟨x.z,.no,an x.v⟩:=⟨eU _,lx,hx.z_v⟩;have hY:NOk ⟨y.z,.no,an y.v⟩:=⟨eU _,ly,hy.z_v⟩;have e1:=rR hx.fr;have e2:=rR hy.fr;rw[show x.fr.v=x.v from rfl,show x.fr.z=x.z from rfl] at e1;rw[show y.fr.v=y.v from rfl,show y.fr.z=y.z from rfl] at e2;have e3:=xC hX hY;have vX:(NV.mk x.z .no (an x.v)).v=x.v:=fG _;have vY:(NV.mk y.z .no (an y.v)).v=y.v:=fG _;rw[vX,vY] at e3;have fX:=dN ⟨x.z,.no,an x.v⟩;have fY:=dN ⟨y.z,.no,an y.v⟩;rw[show (NV.mk x.z .no (an x.v)).fr=⟨x.z,.no,an x.v⟩ from rfl] at fX;rw[show (NV.mk y.z .no (an y.v)).fr=⟨y.z,.no,an y.v⟩ from rfl] at fY;unfold Gr
 by_cases h0:y.v=0
 .rw[aj h0];refine bT _ _ (we Al Al (gH _ _)) rfl (m:=[]) ?_;rw[FF,dW (dN x),e1,ar,aa,dW (dN y),e2,ar,aa,fk,aa,mg,aa,aw,aj (mK.2 h0)]
 .rw[ag h0];have jC:¬ (an y.v).length=0:=fun e=>h0 (mK.1 e)
  by_cases h1:x.v<y.v
  .have hc:gS x.v y.v<0:=by unfold gS;rw[aj h1];omega
   refine bT _ _ (we (pf (lG x y)) (pf (oH x y)) (gH _ _)) rfl (m:=[]) ?_ |>.trans (by rw[Cs,Gq])
   rw[FF,dW (dN x),e1,ar,aa,dW (dN y),e2,ar,aa,fk,aa,mg,aa,aw,ag jC,
    gO fX fY,e3,ar,aa,gw,aa,aw,aj hc,dW fX,QI hX,ar,aa]
   unfold lG oH;rw[aj h1,aj h1]
   rfl
  .have hc:¬ gS x.v y.v<0:=by unfold gS;rw[ag h1];split<;>omega
   by_cases h2:y.v<4294967296
   .have mP:(an y.v).length=1:=Gk.2 ⟨h0,h2⟩
    have LD:(an y.v).getD 0 0=y.v:=by
     rw[xQ h0,rK,ku h2]
    have aG:x.v%y.v<y.v:=jx _ (by omega);refine bT _ _ (we (pf (lG x y)) (pf (oH x y)) (gH _ _)) rfl (m:=[]) ?_ |>.trans (by rw[Cs,Gq])
    have e4:=qcq (d:=y.v) hX (by omega) h2;rw[vX] at e4
    rw[FF,dW (dN x),e1,ar,aa,dW (dN y),e2,ar,aa,fk,aa,mg,aa,aw,ag jC,
     gO fX fY,e3,ar,aa,gw,aa,aw,ag hc,aa,ve,aa,aw,aj mP,Hj (by simp only[mP];omega),aa,j7,aa]
    simp only[LD];rw[gO (b:=dg y.v) (b':=dg y.v) fX (eK .u32 y.v),e4];simp only[ar,aa,bg]
    rw[show ([NV.av ⟨false,.no,an (x.v/y.v)⟩,dg (x.v%y.v)]:List AV)[0]?=some (NV.av ⟨false,.no,an (x.v/y.v)⟩) from rfl,show ([NV.av ⟨false,.no,an (x.v/y.v)⟩,dg (x.v%y.v)]:List AV)[1]?=some (dg (x.v%y.v)) from rfl,
     aa,aa,mE _ (by omega),aa,dW (eK _ _),Q1 (by omega)]
    unfold lG oH;rw[ag h1,ag h1,aj h2]
    rfl
   .have mP:¬ (an y.v).length=1:=fun e=>h2 (Gk.1 e).2;obtain ⟨n,hn⟩:∃n,n=(an y.v).length:=⟨_,rfl⟩;have pV:2<=n:=by omega
    have wx:=Cr h0;rw[<- hn] at wx;have Ml:=eU y.v (n-1);obtain ⟨z1,z2,z3⟩:=Uy (na wx) Ml;obtain ⟨w1,w2⟩:=qjq hn.symm (by omega) z1;have hle:y.v<=x.v:=vG h1;have qkA:=kD hle;generalize hs:lz ((an y.v).getD (n-1) 0)=s at *;have ft:(jm (an x.v) s (an x.v).length).length=(an x.v).length+1:=zb _ _ _;have T3:(jm (an y.v) s (an y.v).length).length=(an y.v).length+1:=zb _ _ _;have hsu:val (jm (an x.v) s (an x.v).length)=2^s*x.v:=by rw[Wh,fG]
    have hsv:val (jm (an y.v) s (an y.v).length)=2^s*y.v:=by rw[Wh,fG]
    have Te:Dg (jm (an x.v) s (an x.v).length):=NH (eU _) z1 _ (aW _);have yg:Dg (jm (an y.v) s (an y.v).length):=NH (eU _) z1 _ (aW _);have rh:(jm (an x.v) s (an x.v).length).getD (an x.v).length 0<2^s:=NI (eU _) _ (aW _);have qgW:2^s<=2^31:=qp (by omega) (by omega);obtain ⟨mm,CZ⟩:∃mm,(an x.v).length+1=mm+n:=⟨(an x.v).length+1-n,by omega⟩;have hW:NOk ⟨false,.no,an (2^s*y.v)⟩:=⟨eU _,by simp only[w1];omega,by simp⟩
    have e5:AP ab 124 [(NV.mk false .no (jm (an y.v) s (an y.v).length)).av]=some (NV.av ⟨false,.no,an (2^s*y.v)⟩):=by
     rw[qO _ (by simp only[T3];omega),ll yg,hsv]
    have hp:=wO (cp:=AP ab) (g:=124) (m:=[oc (jm (an x.v) s (an x.v).length),oc (jm (an y.v) s (an y.v).length)]) (nm:=1) (ds:=jm (an y.v) s (an y.v).length) rfl
    have hI:=qhu (v:=an (2^s*y.v)) (n:=n) (m:=mm) Te (by omega) (qjZ Te w1 (by omega) (by
     rw[show mm+n-1=(an x.v).length by omega]
     exact rQ rh (b7 qgW w2)))
    obtain ⟨u',q',i1,i2⟩:=qcJ ⟨false,.no,an (2^s*y.v)⟩ _ (I5 (aN ab.P f125.results.toList)) (.int .u64 s) (mm+n) n mm w1 pV (eU _) rfl (by omega) w2 mm _ _ (aW _) hI;obtain ⟨k1,k2⟩:=KInv.done (a:=an x.v) (b:=an y.v) z1 (by omega) (by rw[hsu,fG]) (by rw[fG,fG]) i1;rw[fG,fG] at k1 k2;have yn:=i1.lq;have TH:=i1.lu;have i3:=qcN u' q' (I9 (aN ab.P f125.results.toList)) (.arr 2 0 mm none) s (mm+n) n i1.du TH (by omega) (by omega) z1 n 0 (by omega);have p1:=wO (cp:=AP ab) (g:=124) (m:=M3 u' q'++[oc (lp u' s n)]) (nm:=2) (ds:=q') rfl;have p2:=wO (cp:=AP ab) (g:=124) (m:=(M3 u' q'++[oc (lp u' s n)]).set 2 none) (nm:=3) (ds:=lp u' s n) rfl;rw[yn] at p1;rw[D3] at p2;have f1:=rR (x:=⟨false,.no,q'⟩) ⟨i1.dq,by simp only[yn];omega,by simp⟩;have f2:=rR (x:=⟨false,.no,lp u' s n⟩) ⟨Iq i1.du z1 n,by simp only[D3];omega,by simp⟩;rw[NV.v,<- ll i1.dq,k1] at f1;rw[NV.v,<- ll (Iq i1.du z1 n),k2] at f2;refine bT _ _ (we (pf (lG x y)) (pf (oH x y)) (gH _ _)) rfl (m:=[oc u',none,none,none]) ?_ |>.trans (by rw[Cs,Gq])
    rw[FF,dW (dN x),e1,ar,aa,dW (dN y),e2,ar,aa,fk,aa,mg,aa,aw,ag jC,
     gO fX fY,e3,ar,aa,gw,aa,aw,ag hc,aa,ve,aa,aw,ag mP,
     aa,tP (by simp only[];omega) (by simp only[];omega),aa,lR (by simp only[];omega),aa,j7,aa]
    simp only[show (an y.v).getD ((an y.v).length-1) 0=(an y.v).getD (n-1) 0 by rw[hn]];rw[dW (a:=dg ((an y.v).getD (n-1) 0)) (a':=dg ((an y.v).getD (n-1) 0)) (eK _ _),qcr (na wx) Ml,ar,aa,hs,KD (by omega),aa,QN [] hX z1,aa,QN _ hY z1,aa];simp only[aZ,aX,aR,bm];rw[T3] at hp;rw[hp,e5,ar,aa,fk,aa,qhB,aa];simp only[w1,CZ];rw[yE (by omega) (by omega),aa,ti,wJ (by omega) (by omega),aa,aa,yE (by omega) (by omega),aa,ti,qA (by omega),aa]
    refine Eq.trans ?_ (i2.trans ?_)
    .rfl
    rw[Y0,wJ (by omega) (by omega),aa]
    refine Eq.trans ?_ (i3.trans ?_)
    .rfl
    rw[Zf,p1,f1,ar,aa,p2,f2,ar,aa];unfold lG oH;rw[ag h1,ag h1,ag h2]
    rfl
end Go.Ab
namespace Go.Ab
open Go.Proofs.Try
def lK(x y:NV):NV:=⟨if Nat.gcd x.v y.v=0 then x.z else false,sG (Nat.gcd x.v y.v),an (Nat.gcd x.v y.v)⟩
theorem W96(K:KT)(m:ae):∀(n:Nat) (a b:NV),NOk a->NOk b->a.ds=an a.v->b.ds=an b.v->b.v=n->a.fr=a->b.fr=b ->
  ∃c:NV,NOk c/\c.ds=an (Nat.gcd a.v b.v)/\c.fr=c/\(b.v=0->c.z=a.z)/\Fc a.av b.av m K=K (.exit 0) (J6 c.av m):=by
 intro n
 induction n using Nat.strongRecOn with
 | ind n ih=>
  intro a b ha hb ca cb hn fa fb;have fza:=dN a;have fzb:=dN b;rw[fa] at fza;rw[fb] at fzb;rw[qbd,fk,aa,sF,aa,aw]
  by_cases h:b.v=0
  .have hl:¬ b.ds.length>0:=by rw[cb,h,jK];simp
   rw[ag hl];exact ⟨a,ha,by rw[h,Nat.gcd_zero_right];exact ca,fa,fun _=>rfl,rfl⟩
  .have hl:b.ds.length>0:=by
    rw[cb];have:(an b.v).length≠0:=fun e=>h (mK.1 e);omega
   rw[aj hl,gO fza fzb,Kl ha hb,Gr,ag h];simp only[ar,aa];have aG:a.v%b.v<b.v:=jx _ (na h);obtain ⟨c,c1,c2,c3,c4,c5⟩:=ih (a.v%b.v) (by omega) b (oH a b) hb (qfE ha) cb (by rw[Gp,KQ]) (KQ a b) fb (Gq a b);rw[KQ] at c2;refine ⟨c,c1,?_,c3,fun e=>absurd e h,c5⟩;rw[c2,uo b.v,<- Nat.gcd_rec,uo]
theorem Q4{x y:NV}(hx:NOk x)(hy:NOk y):AP ab 96 [x.av,y.av]=some (lK x y).av:=by
 have lx:=hx.v_len';have ly:=hy.v_len';have hX:NOk ⟨x.z,.no,an x.v⟩:=⟨eU _,lx,hx.z_v⟩;have hY:NOk ⟨y.z,.no,an y.v⟩:=⟨eU _,ly,hy.z_v⟩;have e1:=rR hx.fr;have e2:=rR hy.fr;rw[show x.fr.v=x.v from rfl,show x.fr.z=x.z from rfl] at e1;rw[show y.fr.v=y.v from rfl,show y.fr.z=y.z from rfl] at e2;have vX:(NV.mk x.z .no (an x.v)).v=x.v:=fG _;have vY:(NV.mk y.z .no (an y.v)).v=y.v:=fG _;obtain ⟨⟨cz,co,cd⟩,c1,c2,c3,c4,c5⟩:=W96 (Jm (aN ab.P f96.results.toList)) [] _ _ _ hX hY (by rw[vX]) (by rw[vY]) rfl rfl rfl;rw[vX,vY] at c2;rw[vY] at c4;simp only at c2 c4;subst c2
 have hz:cz=if Nat.gcd x.v y.v=0 then x.z else false:=by
  split
  .rename_i h;exact c4 (Nat.eq_zero_of_gcd_eq_zero_right h)
  .rename_i h;have h5:=c1.nil;simp only at h5
   cases cz with
   | false=>rfl
   | true=>exact absurd (D9.1 (h5 rfl)) h
 refine jE (v:=(NV.mk cz (sG (Nat.gcd x.v y.v)) (an (Nat.gcd x.v y.v))).av) (m:=[]) ?_ (by rw[dN];simp only[NV.fr,HI];rw[lK,<- hz]) (by simp[lK,NV.av,gV]);rw[T96,dW (dN x),e1,ar,aa,dW (dN y),e2,ar,aa];refine c5.trans ?_;rw[qaL,dW (dN _),c3,QI c1]
 rfl
theorem R8{a b:Nat}(h:(an a).length<2^40)(h':(an b).length<2^40):(an (Nat.gcd a b)).length<2^40:=by
 by_cases ha:a=0
 .rw[ha,Nat.gcd_zero_left];exact h'
 .exact jG (kD (Nat.gcd_le_left _ (na ha))) h
theorem SD{x y:NV}(hx:NOk x)(hy:NOk y):NOk (lK x y):=by
 refine ⟨eU _,R8 hx.v_len' hy.v_len',?_⟩;unfold lK;simp only
 split
 .rename_i h;intro _;rw[h];exact jK
 .intro h;cases h
theorem SE(x y:NV):(lK x y).v=Nat.gcd x.v y.v:=fG _
theorem qgf(x y:NV):(lK x y).fr=lK x y:=by unfold lK NV.fr;simp only[HI]
end Go.Ab
