/- What the interpreter does, function by function. -/
import Derived.Test.YtlapgjmmlbnehaaLP1
import Derived.Test.YtlapgjmmlbnehaaLP2
set_option maxRecDepth 100000
set_option linter.unusedVariables false
set_option linter.unusedSimpArgs false
set_option linter.unusedSectionVars false
namespace Go.Ab
open Go.Proofs.Try
theorem T70(a0:AV)(m:ae):AC ab 70 [a0] m =
 (bF .u32 a0).bind fun v1=>
 (af .other .shr a0 (.int .u64 32)).bind fun v2=>
 (bF .u32 v2).bind fun v3=>
 (iq none [v1,v3]).bind fun v4=>
 (ao (AP ab) none m 103 [v4]).bind fun r5=>
 some (r5.1,r5.2):=
(bW ab 70 [a0] m (fn:=f70) (c:=al f70) qey rfl).trans (by kernel_rfl)
def JZ(x5:AV)(m:ae):St:=⟨[.any,.any,.any,.any,.any,x5,.any,.any,.any,.any,.any,.any,.any,.any,.any,.any,.any,.any,.any,.any,.any,.any,.any,.any,.any,.any,.any,.any,.any,.any,.any,.any,.any,.any,.any,.any,.any,.any,.any,.any,.any,.any,.any,.any,.any,.any,.any,.any,.any,.any,.any,.any,.any,.any,.any,.any,.any,.any,.any,.any,.any,.any,.any,.any,.any,.any,.any,.any,.any,.any,.any,.any,.any],m⟩
noncomputable def E7(x0 x1 x5 x6:AV)(m:ae)(K:KT):OM:=bP (aq ab 72 (AP ab) (AC ab) (c1 (c1 (c2 (c1 (c2 (c2 (c2 (al f72))))))))) (ab.mask 72 (some 4)) ⟨[x0,x1,.any,.any,.any,x5,x6,.any,.any,.any,.any,.any,.any,.any,.any,.any,.any,.any,.any,.any,.any,.any,.any,.any,.any,.any,.any,.any,.any,.any,.any,.any,.any,.any,.any,.any,.any,.any,.any,.any,.any,.any,.any,.any,.any,.any,.any,.any,.any,.any,.any,.any,.any,.any,.any,.any,.any,.any,.any,.any,.any,.any,.any,.any,.any,.any,.any,.any,.any,.any,.any,.any,.any],m⟩ K
def J0(x0 x1 x5 x6 x7:AV)(m:ae):St:=⟨[x0,x1,.any,.any,.any,x5,x6,x7,.any,.any,.any,.any,.any,.any,.any,.any,.any,.any,.any,.any,.any,.any,.any,.any,.any,.any,.any,.any,.any,.any,.any,.any,.any,.any,.any,.any,.any,.any,.any,.any,.any,.any,.any,.any,.any,.any,.any,.any,.any,.any,.any,.any,.any,.any,.any,.any,.any,.any,.any,.any,.any,.any,.any,.any,.any,.any,.any,.any,.any,.any,.any,.any,.any],m⟩
noncomputable def E8(x0 x1 x5 x6 x7 x8:AV)(m:ae)(K:KT):OM:=bP (aq ab 72 (AP ab) (AC ab) (c1 (c1 (c2 (c1 (c2 (c1 (c1 (c2 (c1 (c1 (c2 (c1 (c2 (c2 (c2 (al f72))))))))))))))))) (ab.mask 72 (some 8)) ⟨[x0,x1,.any,.any,.any,x5,x6,x7,x8,.any,.any,.any,.any,.any,.any,.any,.any,.any,.any,.any,.any,.any,.any,.any,.any,.any,.any,.any,.any,.any,.any,.any,.any,.any,.any,.any,.any,.any,.any,.any,.any,.any,.any,.any,.any,.any,.any,.any,.any,.any,.any,.any,.any,.any,.any,.any,.any,.any,.any,.any,.any,.any,.any,.any,.any,.any,.any,.any,.any,.any,.any,.any,.any],m⟩ K
noncomputable abbrev Z5(K:KT):KT:=dQ (fun st=>aq ab 72 (AP ab) (AC ab) (c2 (c2 (c2 (c2 (al f72))))) st K) K
noncomputable abbrev Z6(K:KT):KT:=dK 0 (Z5 K)
noncomputable abbrev Ji(K:KT):KT:=(Z6 K)
noncomputable abbrev Z8(K:KT):KT:=dQ (fun st=>aq ab 72 (AP ab) (AC ab) (c2 (c2 (c1 (c1 (c2 (c1 (c2 (c2 (c2 (al f72)))))))))) st (fz (fun st=>bP (aq ab 72 (AP ab) (AC ab) (c1 (c1 (c2 (c1 (c2 (c2 (c2 (al f72))))))))) (ab.mask 72 (some 4)) st K) (ab.mask 72 (some 4)) K)) (fz (fun st=>bP (aq ab 72 (AP ab) (AC ab) (c1 (c1 (c2 (c1 (c2 (c2 (c2 (al f72))))))))) (ab.mask 72 (some 4)) st K) (ab.mask 72 (some 4)) K)
noncomputable abbrev O8(K:KT):KT:=dK 1 (Z8 K)
noncomputable abbrev Z9(K:KT):KT:=dQ (fun st=>aq ab 72 (AP ab) (AC ab) (c2 (c2 (c1 (c1 (c2 (c1 (c1 (c2 (c1 (c2 (c2 (c2 (al f72))))))))))))) st (O8 K)) (O8 K)
noncomputable abbrev qaa(K:KT):KT:=dK 2 (Z9 K)
noncomputable abbrev Jj(K:KT):KT:=(qaa K)
theorem T72(a0 a1:AV)(m:ae):AC ab 72 [a0,a1] m =
 (ao (AP ab) none m 103 [a0]).bind fun r1=>
 (ao (AP ab) none r1.2 103 [a1]).bind fun r2=>
 (aY false r1.1).bind fun v3=>
 (aY false r2.1).bind fun v4=>
 (af .other .add v3 v4).bind fun v5=>
 (jM none 116 none (.int .u32 0) 4 r2.2 v5 v5).bind fun r6=>
 E7 r1.1 r2.1 r6.1 (.int .i64 0) r6.2 (Ji (aN ab.P f72.results.toList)):=
(bW ab 72 [a0,a1] m (fn:=f72) (c:=al f72) qeA rfl).trans (by kernel_rfl)
theorem P1(x0 x1 x5 x6:AV)(m:ae)(K:KT):E7 x0 x1 x5 x6 m K =
 (aY false x0).bind fun v1=>
 (af .other .lss x6 v1).bind fun v2=>
 au v2 (
 E8 x0 x1 x5 x6 (.int .u64 0) (.int .i64 0) m (Jj K)) (
 K (.exit 0) (JZ x5 m)):=
(eu (ed _) _ _ _).trans (by kernel_rfl)
theorem P2(x0 x1 x5 x6 x7 x8:AV)(m:ae)(K:KT):E8 x0 x1 x5 x6 x7 x8 m K =
 (aY false x1).bind fun v1=>
 (af .other .lss x8 v1).bind fun v2=>
 au v2 (
 (aJ none x0 x6).bind fun v3=>
 (ai none m v3).bind fun v4=>
 (bF .u64 v4).bind fun v5=>
 (aJ none x1 x8).bind fun v6=>
 (ai none m v6).bind fun v7=>
 (bF .u64 v7).bind fun v8=>
 (af .other .mul v5 v8).bind fun v9=>
 (af .other .add x6 x8).bind fun v10=>
 (aJ none x5 v10).bind fun v11=>
 (ai none m v11).bind fun aV=>
 (bF .u64 aV).bind fun bL=>
 (af .other .add v9 bL).bind fun bM=>
 (af .other .add bM x7).bind fun bz=>
 (af .other .add x6 x8).bind fun bQ=>
 (af .other .rem bz (.int .u64 4294967296)).bind fun bV=>
 (bF .u32 bV).bind fun dU=>
 (aJ none x5 bQ).bind fun dL=>
 (aA none m dL dU).bind fun m20=>
 (af .other .quo bz (.int .u64 4294967296)).bind fun eg=>
 (af .other .add x8 (.int .i64 1)).bind fun dV=>
 E8 x0 x1 x5 x6 eg dV m20 K) (
 K (.exit 2) (J0 x0 x1 x5 x6 x7 m)):=
(eu (ed _) _ _ _).trans (by kernel_rfl)
theorem Z7(x5:AV)(m:ae):Ji (aN ab.P f72.results.toList) (.exit 0) (JZ x5 m) =
 (ao (AP ab) none m 103 [x5]).bind fun r1=>
 some (r1.1,r1.2):=by kernel_rfl
theorem qab(x0 x1 x5 x6 x7:AV)(m:ae)(K:KT):Jj K (.exit 2) (J0 x0 x1 x5 x6 x7 m) =
 (aY false x1).bind fun v1=>
 (af .other .add x6 v1).bind fun v2=>
 (bF .u32 x7).bind fun v3=>
 (aJ none x5 v2).bind fun v4=>
 (aA none m v4 v3).bind fun m5=>
 (af .other .add x6 (.int .i64 1)).bind fun v6=>
 E7 x0 x1 x5 v6 m5 K:=by kernel_rfl
theorem T97(a0:AV)(m:ae):AC ab 97 [a0] m =
 (aY false a0).bind fun v1=>
 (af .other .eql v1 (.int .i64 0)).bind fun v2=>
 au v2 (
 some ((.bool true),m)) (
 (aY false a0).bind fun v3=>
 (af .other .sub v3 (.int .i64 1)).bind fun v4=>
 (aJ none a0 v4).bind fun v5=>
 (ai none m v5).bind fun v6=>
 (af .other .neq v6 (.int .u32 0)).bind fun v7=>
 some (v7,m)):=
(bW ab 97 [a0] m (fn:=f97) (c:=al f97) qeQ rfl).trans (by kernel_rfl)
def J7(m:ae):St:=⟨[.any,.any,.any,.any,.any,.any,.any,.any,.any,.any,.any,.any,.any,.any,.any,.any,.any,.any,.any,.any,.any,.any,.any,.any,.any,.any,.any,.any,.any,.any,.any,.any,.any,.any,.any,.any,.any,.any,.any,.any,.any,.any,.any,.any,.any],m⟩
def FB(x4:AV)(m:ae):St:=⟨[.any,.any,.any,.any,x4,.any,.any,.any,.any,.any,.any,.any,.any,.any,.any,.any,.any,.any,.any,.any,.any,.any,.any,.any,.any,.any,.any,.any,.any,.any,.any,.any,.any,.any,.any,.any,.any,.any,.any,.any,.any,.any,.any,.any,.any],m⟩
noncomputable def Fe(x0 x1 x5:AV)(m:ae)(K:KT):OM:=bP (aq ab 98 (AP ab) (AC ab) (c1 (c1 (c2 (c1 (c2 (c2 (c2 (al f98))))))))) (ab.mask 98 (some 7)) ⟨[x0,x1,.any,.any,.any,x5,.any,.any,.any,.any,.any,.any,.any,.any,.any,.any,.any,.any,.any,.any,.any,.any,.any,.any,.any,.any,.any,.any,.any,.any,.any,.any,.any,.any,.any,.any,.any,.any,.any,.any,.any,.any,.any,.any,.any],m⟩ K
noncomputable abbrev qaM(K:KT):KT:=dQ (fun st=>aq ab 98 (AP ab) (AC ab) (c2 (c2 (c2 (c2 (al f98))))) st K) K
noncomputable abbrev qaN(K:KT):KT:=dK 0 (qaM K)
noncomputable abbrev EJ(K:KT):KT:=(qaN K)
theorem T98(a0 a1:AV)(m:ae):AC ab 98 [a0,a1] m =
 (ao (AP ab) none m 103 [a0]).bind fun r1=>
 (ao (AP ab) none r1.2 103 [a1]).bind fun r2=>
 (aY false r1.1).bind fun v3=>
 (aY false r2.1).bind fun v4=>
 (af .other .neq v3 v4).bind fun v5=>
 au v5 (
 (aY false r1.1).bind fun v6=>
 (aY false r2.1).bind fun v7=>
 (af .other .lss v6 v7).bind fun v8=>
 au v8 (
 some ((.int .i64 (-1)),r2.2)) (
 some ((.int .i64 1),r2.2))) (
 (aY false r1.1).bind fun v9=>
 (af .other .sub v9 (.int .i64 1)).bind fun v10=>
 Fe r1.1 r2.1 v10 r2.2 (EJ (aN ab.P f98.results.toList))):=
(bW ab 98 [a0,a1] m (fn:=f98) (c:=al f98) qeR rfl).trans (by kernel_rfl)
theorem P9(x0 x1 x5:AV)(m:ae)(K:KT):Fe x0 x1 x5 m K =
 (af .other .geq x5 (.int .i64 0)).bind fun v1=>
 au v1 (
 (aJ none x0 x5).bind fun v2=>
 (ai none m v2).bind fun v3=>
 (aJ none x1 x5).bind fun v4=>
 (ai none m v4).bind fun v5=>
 (af .other .neq v3 v5).bind fun v6=>
 au v6 (
 (aJ none x0 x5).bind fun v7=>
 (ai none m v7).bind fun v8=>
 (aJ none x1 x5).bind fun v9=>
 (ai none m v9).bind fun v10=>
 (af .other .lss v8 v10).bind fun v11=>
 au v11 (
 K .ret (FB (.int .i64 (-1)) m)) (
 K .ret (FB (.int .i64 1) m))) (
 (af .other .sub x5 (.int .i64 1)).bind fun aV=>
 Fe x0 x1 aV m K)) (
 K (.exit 0) (J7 m)):=
(eu (ed _) _ _ _).trans (by kernel_rfl)
theorem qaP(m:ae):EJ (aN ab.P f98.results.toList) (.exit 0) (J7  m) =
 some ((.int .i64 0),m):=by kernel_rfl
theorem qaO(x4:AV)(m:ae):EJ (aN ab.P f98.results.toList) .ret (FB x4 m) =
 some (x4,m):=by kernel_rfl
def Kb(x5:AV)(m:ae):St:=⟨[.any,.any,.any,.any,.any,x5,.any,.any,.any,.any,.any,.any,.any,.any,.any,.any,.any,.any,.any,.any,.any,.any,.any,.any,.any,.any,.any,.any,.any,.any,.any,.any,.any,.any,.any,.any,.any,.any,.any,.any,.any,.any,.any,.any,.any,.any,.any,.any,.any,.any,.any,.any,.any,.any,.any,.any,.any,.any,.any,.any,.any,.any,.any,.any,.any,.any,.any,.any,.any,.any,.any,.any,.any,.any,.any,.any,.any,.any,.any,.any,.any,.any,.any,.any],m⟩
noncomputable def Fh(x5 x7:AV)(m:ae)(K:KT):OM:=bP (aq ab 99 (AP ab) (AC ab) (c1 (c1 (c1 (c1 (c2 (c1 (c2 (c2 (c2 (c2 (al f99)))))))))))) (ab.mask 99 (some 5)) ⟨[.any,.any,.any,.any,.any,x5,.any,x7,.any,.any,.any,.any,.any,.any,.any,.any,.any,.any,.any,.any,.any,.any,.any,.any,.any,.any,.any,.any,.any,.any,.any,.any,.any,.any,.any,.any,.any,.any,.any,.any,.any,.any,.any,.any,.any,.any,.any,.any,.any,.any,.any,.any,.any,.any,.any,.any,.any,.any,.any,.any,.any,.any,.any,.any,.any,.any,.any,.any,.any,.any,.any,.any,.any,.any,.any,.any,.any,.any,.any,.any,.any,.any,.any,.any],m⟩ K
def Fx(x0 x1 x9:AV)(m:ae):St:=⟨[x0,x1,.any,.any,.any,.any,.any,.any,.any,x9,.any,.any,.any,.any,.any,.any,.any,.any,.any,.any,.any,.any,.any,.any,.any,.any,.any,.any,.any,.any,.any,.any,.any,.any,.any,.any,.any,.any,.any,.any,.any,.any,.any,.any,.any,.any,.any,.any,.any,.any,.any,.any,.any,.any,.any,.any,.any,.any,.any,.any,.any,.any,.any,.any,.any,.any,.any,.any,.any,.any,.any,.any,.any,.any,.any,.any,.any,.any,.any,.any,.any,.any,.any,.any],m⟩
noncomputable def zH(x0 x1 x9:AV)(m:ae)(K:KT):OM:=bP (aq ab 99 (AP ab) (AC ab) (c1 (c1 (c1 (c2 (c2 (c2 (c2 (c2 (c2 (c2 (c2 (al f99))))))))))))) (ab.mask 99 (some 13)) ⟨[x0,x1,.any,.any,.any,.any,.any,.any,.any,x9,.any,.any,.any,.any,.any,.any,.any,.any,.any,.any,.any,.any,.any,.any,.any,.any,.any,.any,.any,.any,.any,.any,.any,.any,.any,.any,.any,.any,.any,.any,.any,.any,.any,.any,.any,.any,.any,.any,.any,.any,.any,.any,.any,.any,.any,.any,.any,.any,.any,.any,.any,.any,.any,.any,.any,.any,.any,.any,.any,.any,.any,.any,.any,.any,.any,.any,.any,.any,.any,.any,.any,.any,.any,.any],m⟩ K
def J8(x0 x9:AV)(m:ae):St:=⟨[x0,.any,.any,.any,.any,.any,.any,.any,.any,x9,.any,.any,.any,.any,.any,.any,.any,.any,.any,.any,.any,.any,.any,.any,.any,.any,.any,.any,.any,.any,.any,.any,.any,.any,.any,.any,.any,.any,.any,.any,.any,.any,.any,.any,.any,.any,.any,.any,.any,.any,.any,.any,.any,.any,.any,.any,.any,.any,.any,.any,.any,.any,.any,.any,.any,.any,.any,.any,.any,.any,.any,.any,.any,.any,.any,.any,.any,.any,.any,.any,.any,.any,.any,.any],m⟩
noncomputable def BU(x0 x1 x9:AV)(m:ae)(K:KT):OM:=bP (aq ab 99 (AP ab) (AC ab) (c1 (c1 (c1 (c2 (c2 (c2 (c2 (c2 (c2 (c2 (c2 (c2 (al f99)))))))))))))) (ab.mask 99 (some 15)) ⟨[x0,x1,.any,.any,.any,.any,.any,.any,.any,x9,.any,.any,.any,.any,.any,.any,.any,.any,.any,.any,.any,.any,.any,.any,.any,.any,.any,.any,.any,.any,.any,.any,.any,.any,.any,.any,.any,.any,.any,.any,.any,.any,.any,.any,.any,.any,.any,.any,.any,.any,.any,.any,.any,.any,.any,.any,.any,.any,.any,.any,.any,.any,.any,.any,.any,.any,.any,.any,.any,.any,.any,.any,.any,.any,.any,.any,.any,.any,.any,.any,.any,.any,.any,.any],m⟩ K
def J9(x0 x1 x9:AV)(m:ae):St:=⟨[x0,x1,.any,.any,.any,.any,.any,.any,.any,x9,.any,.any,.any,.any,.any,.any,.any,.any,.any,.any,.any,.any,.any,.any,.any,.any,.any,.any,.any,.any,.any,.any,.any,.any,.any,.any,.any,.any,.any,.any,.any,.any,.any,.any,.any,.any,.any,.any,.any,.any,.any,.any,.any,.any,.any,.any,.any,.any,.any,.any,.any,.any,.any,.any,.any,.any,.any,.any,.any,.any,.any,.any,.any,.any,.any,.any,.any,.any,.any,.any,.any,.any,.any,.any],m⟩
noncomputable def Ff(x0 x1 x9:AV)(m:ae)(K:KT):OM:=bP (aq ab 99 (AP ab) (AC ab) (c1 (c1 (c1 (c1 (c2 (c1 (c1 (c1 (c2 (c2 (c2 (c2 (c2 (c2 (c2 (c2 (c2 (al f99))))))))))))))))))) (ab.mask 99 (some 16)) ⟨[x0,x1,.any,.any,.any,.any,.any,.any,.any,x9,.any,.any,.any,.any,.any,.any,.any,.any,.any,.any,.any,.any,.any,.any,.any,.any,.any,.any,.any,.any,.any,.any,.any,.any,.any,.any,.any,.any,.any,.any,.any,.any,.any,.any,.any,.any,.any,.any,.any,.any,.any,.any,.any,.any,.any,.any,.any,.any,.any,.any,.any,.any,.any,.any,.any,.any,.any,.any,.any,.any,.any,.any,.any,.any,.any,.any,.any,.any,.any,.any,.any,.any,.any,.any],m⟩ K
def Ka(x0 x1 x9:AV)(m:ae):St:=⟨[x0,x1,.any,.any,.any,.any,.any,.any,.any,x9,.any,.any,.any,.any,.any,.any,.any,.any,.any,.any,.any,.any,.any,.any,.any,.any,.any,.any,.any,.any,.any,.any,.any,.any,.any,.any,.any,.any,.any,.any,.any,.any,.any,.any,.any,.any,.any,.any,.any,.any,.any,.any,.any,.any,.any,.any,.any,.any,.any,.any,.any,.any,.any,.any,.any,.any,.any,.any,.any,.any,.any,.any,.any,.any,.any,.any,.any,.any,.any,.any,.any,.any,.any,.any],m⟩
noncomputable def Fg(x0 x1 x9:AV)(m:ae)(K:KT):OM:=bP (aq ab 99 (AP ab) (AC ab) (c1 (c1 (c1 (c2 (c1 (c2 (c1 (c1 (c1 (c2 (c2 (c2 (c2 (c2 (c2 (c2 (c2 (c2 (al f99)))))))))))))))))))) (ab.mask 99 (some 18)) ⟨[x0,x1,.any,.any,.any,.any,.any,.any,.any,x9,.any,.any,.any,.any,.any,.any,.any,.any,.any,.any,.any,.any,.any,.any,.any,.any,.any,.any,.any,.any,.any,.any,.any,.any,.any,.any,.any,.any,.any,.any,.any,.any,.any,.any,.any,.any,.any,.any,.any,.any,.any,.any,.any,.any,.any,.any,.any,.any,.any,.any,.any,.any,.any,.any,.any,.any,.any,.any,.any,.any,.any,.any,.any,.any,.any,.any,.any,.any,.any,.any,.any,.any,.any,.any],m⟩ K
noncomputable abbrev Pk(K:KT):KT:=dQ (fun st=>aq ab 99 (AP ab) (AC ab) (c2 (c2 (c2 (c2 (c2 (al f99)))))) st K) K
noncomputable abbrev qa2(K:KT):KT:=dQ (fun st=>aq ab 99 (AP ab) (AC ab) (c2 (c1 (c2 (c1 (c2 (c2 (c2 (c2 (al f99))))))))) st (Pk K)) (Pk K)
noncomputable abbrev qa3(K:KT):KT:=dK 0 (qa2 K)
noncomputable abbrev Pj(K:KT):KT:=(qa3 K)
noncomputable abbrev qaQ(K:KT):KT:=dQ (fun st=>aq ab 99 (AP ab) (AC ab) (c2 (c2 (c2 (c2 (c2 (c2 (c2 (c2 (c2 (al f99)))))))))) st K) K
noncomputable abbrev qaR(K:KT):KT:=dK 2 (qaQ K)
noncomputable abbrev BH(K:KT):KT:=(qaR K)
noncomputable abbrev Pg(K:KT):KT:=dK 5 (fz (fun st=>bP (aq ab 99 (AP ab) (AC ab) (c1 (c1 (c1 (c2 (c2 (c2 (c2 (c2 (c2 (c2 (c2 (c2 (al f99)))))))))))))) (ab.mask 99 (some 15)) st K) (ab.mask 99 (some 15)) K)
noncomputable abbrev qaW(K:KT):KT:=dQ (fun st=>aq ab 99 (AP ab) (AC ab) (c2 (c1 (c2 (c1 (c1 (c1 (c2 (c2 (c2 (c2 (c2 (c2 (c2 (c2 (c2 (al f99)))))))))))))))) st (Pg K)) (Pg K)
noncomputable abbrev qaX(K:KT):KT:=dK 6 (qaW K)
noncomputable abbrev Jn(K:KT):KT:=(qaX K)
noncomputable abbrev qaT(K:KT):KT:=dQ (fun st=>aq ab 99 (AP ab) (AC ab) (c2 (c2 (c2 (c2 (c2 (c2 (c2 (c2 (c2 (c2 (al f99))))))))))) st K) K
noncomputable abbrev qaU(K:KT):KT:=dK 4 (qaT K)
noncomputable abbrev Pf(K:KT):KT:=(qaU K)
noncomputable abbrev Ph(K:KT):KT:=dK 5 (fz (fun st=>bP (aq ab 99 (AP ab) (AC ab) (c1 (c1 (c1 (c2 (c2 (c2 (c2 (c2 (c2 (c2 (c2 (c2 (al f99)))))))))))))) (ab.mask 99 (some 15)) st K) (ab.mask 99 (some 15)) K)
noncomputable abbrev qaZ(K:KT):KT:=dQ (fun st=>aq ab 99 (AP ab) (AC ab) (c2 (c2 (c1 (c2 (c1 (c1 (c1 (c2 (c2 (c2 (c2 (c2 (c2 (c2 (c2 (c2 (al f99))))))))))))))))) st (Ph K)) (Ph K)
noncomputable abbrev qa0(K:KT):KT:=dK 8 (qaZ K)
noncomputable abbrev Jo(K:KT):KT:=(qa0 K)
theorem T99(a0 a1:AV)(m:ae):AC ab 99 [a0,a1] m =
 (ao (AP ab) none m 103 [a0]).bind fun r1=>
 (ao (AP ab) none r1.2 103 [a1]).bind fun r2=>
 (ao (AP ab) none r2.2 126 [r1.1]).bind fun r3=>
 (bg r3.1 0).bind fun v4=>
 (bg r3.1 1).bind fun v5=>
 (ao (AP ab) none r3.2 126 [r2.1]).bind fun r6=>
 (bg r6.1 0).bind fun v7=>
 (bg r6.1 1).bind fun v8=>
 au v5 (
 au v8 (
 Fh v4 v7 r6.2 (Pj (aN ab.P f99.results.toList))) (
 (aY false r1.1).bind fun v9=>
 (af .other .eql v9 (.int .i64 0)).bind fun v10=>
 au v10 (
 some (r2.1,r6.2)) (
 (aY false r2.1).bind fun v11=>
 (af .other .eql v11 (.int .i64 0)).bind fun aV=>
 au aV (
 some (r1.1,r6.2)) (
 (ao (AP ab) none r6.2 70 [(.int .u64 1)]).bind fun iT=>
 zH r1.1 r2.1 iT.1 iT.2 (BH (aN ab.P f99.results.toList)))))) (
 (aY false r1.1).bind fun bM=>
 (af .other .eql bM (.int .i64 0)).bind fun bz=>
 au bz (
 some (r2.1,r6.2)) (
 (aY false r2.1).bind fun bQ=>
 (af .other .eql bQ (.int .i64 0)).bind fun bV=>
 au bV (
 some (r1.1,r6.2)) (
 (ao (AP ab) none r6.2 70 [(.int .u64 1)]).bind fun gi=>
 zH r1.1 r2.1 gi.1 gi.2 (BH (aN ab.P f99.results.toList))))):=
(bW ab 99 [a0,a1] m (fn:=f99) (c:=al f99) qeS rfl).trans (by kernel_rfl)
theorem qbi(x5 x7:AV)(m:ae)(K:KT):Fh x5 x7 m K =
 (af .other .neq x7 (.int .u64 0)).bind fun v1=>
 au v1 (
 (af .other .rem x5 x7).bind fun v2=>
 Fh x7 v2 m K) (
 K (.exit 0) (Kb x5 m)):=
(eu (ed _) _ _ _).trans (by kernel_rfl)
theorem qbe(x0 x1 x9:AV)(m:ae)(K:KT):zH x0 x1 x9 m K =
 (ao (AP ab) none m 127 [x0]).bind fun r1=>
 au r1.1 (
 (ao (AP ab) none r1.2 127 [x1]).bind fun r2=>
 au r2.1 (
 (ao (AP ab) none r2.2 128 [x0]).bind fun r3=>
 (ao (AP ab) none r3.2 128 [x1]).bind fun r4=>
 (ao (AP ab) none r4.2 111 [x9,x9]).bind fun r5=>
 zH r3.1 r4.1 r5.1 r5.2 K) (
 K (.exit 2) (Fx x0 x1 x9 r2.2))) (
 K (.exit 2) (Fx x0 x1 x9 r1.2)):=
(eu (ed _) _ _ _).trans (by kernel_rfl)
theorem qbf(x0 x1 x9:AV)(m:ae)(K:KT):BU x0 x1 x9 m K =
 (aY false x1).bind fun v1=>
 (af .other .gtr v1 (.int .i64 0)).bind fun v2=>
 au v2 (
 Ff x0 x1 x9 m (Jn K)) (
 K (.exit 4) (J8 x0 x9 m)):=
(eu (ed _) _ _ _).trans (by kernel_rfl)
theorem qbg(x0 x1 x9:AV)(m:ae)(K:KT):Ff x0 x1 x9 m K =
 (ao (AP ab) none m 127 [x0]).bind fun r1=>
 au r1.1 (
 (ao (AP ab) none r1.2 128 [x0]).bind fun r2=>
 Ff r2.1 x1 x9 r2.2 K) (
 K (.exit 6) (J9 x0 x1 x9 r1.2)):=
(eu (ed _) _ _ _).trans (by kernel_rfl)
theorem qbh(x0 x1 x9:AV)(m:ae)(K:KT):Fg x0 x1 x9 m K =
 (ao (AP ab) none m 127 [x1]).bind fun r1=>
 au r1.1 (
 (ao (AP ab) none r1.2 128 [x1]).bind fun r2=>
 Fg x0 r2.1 x9 r2.2 K) (
 K (.exit 8) (Ka x0 x1 x9 r1.2)):=
(eu (ed _) _ _ _).trans (by kernel_rfl)
theorem qa4(x5:AV)(m:ae):Pj (aN ab.P f99.results.toList) (.exit 0) (Kb x5 m) =
 (ao (AP ab) none m 70 [x5]).bind fun r1=>
 some (r1.1,r1.2):=by kernel_rfl
theorem qaS(x0 x1 x9:AV)(m:ae):BH (aN ab.P f99.results.toList) (.exit 2) (Fx x0 x1 x9 m) =
 BU x0 x1 x9 m (Pf (aN ab.P f99.results.toList)):=by kernel_rfl
theorem qaY(x0 x1 x9:AV)(m:ae)(K:KT):Jn K (.exit 6) (J9 x0 x1 x9 m) =
 Fg x0 x1 x9 m (Jo K):=by kernel_rfl
theorem qaV(x0 x9:AV)(m:ae):Pf (aN ab.P f99.results.toList) (.exit 4) (J8 x0 x9 m) =
 (ao (AP ab) none m 72 [x0,x9]).bind fun r1=>
 some (r1.1,r1.2):=by kernel_rfl
theorem qa1(x0 x1 x9:AV)(m:ae)(K:KT):Jo K (.exit 8) (Ka x0 x1 x9 m) =
 (ao (AP ab) none m 98 [x0,x1]).bind fun r1=>
 (af .other .gtr r1.1 (.int .i64 0)).bind fun v2=>
 au v2 (
 (ao (AP ab) none r1.2 112 [x0,x1]).bind fun r3=>
 (bg r3.1 0).bind fun v4=>
 (bg r3.1 1).bind fun v5=>
 BU x1 v4 x9 r3.2 K) (
 (ao (AP ab) none r1.2 112 [x1,x0]).bind fun r6=>
 (bg r6.1 0).bind fun v7=>
 (bg r6.1 1).bind fun v8=>
 BU x0 v7 x9 r6.2 K):=by kernel_rfl
def Jw(x3:AV)(m:ae):St:=⟨[.any,.any,.any,x3,.any,.any,.any,.any,.any,.any,.any,.any,.any,.any,.any,.any,.any,.any,.any,.any,.any,.any,.any,.any,.any,.any,.any],m⟩
noncomputable def EK(x3 x4:AV)(m:ae)(K:KT):OM:=bP (aq ab 101 (AP ab) (AC ab) (c1 (c1 (c2 (c1 (c2 (c2 (c2 (c2 (al f101)))))))))) (ab.mask 101 (some 6)) ⟨[.any,.any,.any,x3,x4,.any,.any,.any,.any,.any,.any,.any,.any,.any,.any,.any,.any,.any,.any,.any,.any,.any,.any,.any,.any,.any,.any],m⟩ K
noncomputable abbrev Yb(K:KT):KT:=dQ (fun st=>aq ab 101 (AP ab) (AC ab) (c2 (c2 (c2 (c2 (c2 (al f101)))))) st K) K
noncomputable abbrev Yc(K:KT):KT:=dK 0 (Yb K)
noncomputable abbrev IW(K:KT):KT:=(Yc K)
theorem Qk(a0:AV)(m:ae):AC ab 101 [a0] m =
 (ao (AP ab) none m 103 [a0]).bind fun r1=>
 (aY false r1.1).bind fun v2=>
 (af .other .eql v2 (.int .i64 0)).bind fun v3=>
 au v3 (
 some ((.int .i64 0),r1.2)) (
 (aY false r1.1).bind fun v4=>
 (af .other .sub v4 (.int .i64 1)).bind fun v5=>
 (af .other .mul (.int .i64 32) v5).bind fun v6=>
 (aY false r1.1).bind fun v7=>
 (af .other .sub v7 (.int .i64 1)).bind fun v8=>
 (aJ none r1.1 v8).bind fun v9=>
 (ai none r1.2 v9).bind fun v10=>
 EK v6 v10 r1.2 (IW (aN ab.P f101.results.toList))):=
(bW ab 101 [a0] m (fn:=f101) (c:=al f101) qdq rfl).trans (by kernel_rfl)
theorem Pl(x3 x4:AV)(m:ae)(K:KT):EK x3 x4 m K =
 (af .other .gtr x4 (.int .u32 0)).bind fun v1=>
 au v1 (
 (af .other .add x3 (.int .i64 1)).bind fun v2=>
 (af .other .quo x4 (.int .u32 2)).bind fun v3=>
 EK v2 v3 m K) (
 K (.exit 0) (Jw x3 m)):=
(eu (ed _) _ _ _).trans (by kernel_rfl)
theorem Yd(x3:AV)(m:ae):IW (aN ab.P f101.results.toList) (.exit 0) (Jw x3 m) =
 some (x3,m):=by kernel_rfl
def Jy(x0 x9:AV)(m:ae):St:=⟨[x0,.any,.any,.any,.any,.any,.any,.any,.any,x9,.any,.any,.any,.any,.any,.any,.any,.any,.any,.any,.any,.any,.any,.any,.any,.any,.any,.any,.any,.any,.any,.any,.any,.any,.any,.any,.any,.any,.any,.any,.any,.any,.any,.any,.any,.any,.any,.any,.any,.any,.any,.any,.any,.any,.any,.any,.any,.any,.any,.any,.any,.any,.any,.any,.any,.any,.any,.any,.any,.any,.any,.any,.any,.any,.any,.any,.any,.any,.any,.any,.any,.any,.any,.any,.any,.any,.any,.any,.any,.any,.any,.any,.any,.any,.any,.any,.any,.any],m⟩
noncomputable def EL(x0 x1 x9 aT:AV)(m:ae)(K:KT):OM:=bP (aq ab 102 (AP ab) (AC ab) (c1 (c1 (c2 (c1 (c2 (c2 (c2 (c2 (c2 (c2 (al f102)))))))))))) (ab.mask 102 (some 11)) ⟨[x0,x1,.any,.any,.any,.any,.any,.any,.any,x9,aT,.any,.any,.any,.any,.any,.any,.any,.any,.any,.any,.any,.any,.any,.any,.any,.any,.any,.any,.any,.any,.any,.any,.any,.any,.any,.any,.any,.any,.any,.any,.any,.any,.any,.any,.any,.any,.any,.any,.any,.any,.any,.any,.any,.any,.any,.any,.any,.any,.any,.any,.any,.any,.any,.any,.any,.any,.any,.any,.any,.any,.any,.any,.any,.any,.any,.any,.any,.any,.any,.any,.any,.any,.any,.any,.any,.any,.any,.any,.any,.any,.any,.any,.any,.any,.any,.any,.any],m⟩ K
def Jz(x0 x1 x9 aT cn:AV)(m:ae):St:=⟨[x0,x1,.any,.any,.any,.any,.any,.any,.any,x9,aT,cn,.any,.any,.any,.any,.any,.any,.any,.any,.any,.any,.any,.any,.any,.any,.any,.any,.any,.any,.any,.any,.any,.any,.any,.any,.any,.any,.any,.any,.any,.any,.any,.any,.any,.any,.any,.any,.any,.any,.any,.any,.any,.any,.any,.any,.any,.any,.any,.any,.any,.any,.any,.any,.any,.any,.any,.any,.any,.any,.any,.any,.any,.any,.any,.any,.any,.any,.any,.any,.any,.any,.any,.any,.any,.any,.any,.any,.any,.any,.any,.any,.any,.any,.any,.any,.any,.any],m⟩
noncomputable def BI(x0 x1 x9 aT cn cq:AV)(m:ae)(K:KT):OM:=bP (aq ab 102 (AP ab) (AC ab) (c1 (c1 (c1 (c2 (c1 (c1 (c2 (c1 (c1 (c2 (c1 (c2 (c2 (c2 (c2 (c2 (c2 (al f102))))))))))))))))))) (ab.mask 102 (some 14)) ⟨[x0,x1,.any,.any,.any,.any,.any,.any,.any,x9,aT,cn,cq,.any,.any,.any,.any,.any,.any,.any,.any,.any,.any,.any,.any,.any,.any,.any,.any,.any,.any,.any,.any,.any,.any,.any,.any,.any,.any,.any,.any,.any,.any,.any,.any,.any,.any,.any,.any,.any,.any,.any,.any,.any,.any,.any,.any,.any,.any,.any,.any,.any,.any,.any,.any,.any,.any,.any,.any,.any,.any,.any,.any,.any,.any,.any,.any,.any,.any,.any,.any,.any,.any,.any,.any,.any,.any,.any,.any,.any,.any,.any,.any,.any,.any,.any,.any,.any],m⟩ K
noncomputable abbrev Ye(K:KT):KT:=dQ (fun st=>aq ab 102 (AP ab) (AC ab) (c2 (c2 (c2 (c2 (c2 (c2 (c2 (al f102)))))))) st K) K
noncomputable abbrev Yf(K:KT):KT:=dK 0 (Ye K)
noncomputable abbrev IX(K:KT):KT:=(Yf K)
noncomputable abbrev Yh(K:KT):KT:=dQ (fun st=>aq ab 102 (AP ab) (AC ab) (c2 (c2 (c1 (c1 (c2 (c1 (c2 (c2 (c2 (c2 (c2 (c2 (al f102))))))))))))) st (fz (fun st=>bP (aq ab 102 (AP ab) (AC ab) (c1 (c1 (c2 (c1 (c2 (c2 (c2 (c2 (c2 (c2 (al f102)))))))))))) (ab.mask 102 (some 11)) st K) (ab.mask 102 (some 11)) K)) (fz (fun st=>bP (aq ab 102 (AP ab) (AC ab) (c1 (c1 (c2 (c1 (c2 (c2 (c2 (c2 (c2 (c2 (al f102)))))))))))) (ab.mask 102 (some 11)) st K) (ab.mask 102 (some 11)) K)
noncomputable abbrev OU(K:KT):KT:=dK 1 (Yh K)
noncomputable abbrev Yi(K:KT):KT:=dQ (fun st=>aq ab 102 (AP ab) (AC ab) (c2 (c2 (c1 (c1 (c2 (c1 (c1 (c2 (c1 (c2 (c2 (c2 (c2 (c2 (c2 (al f102)))))))))))))))) st (OU K)) (OU K)
noncomputable abbrev Yj(K:KT):KT:=dK 2 (Yi K)
noncomputable abbrev IY(K:KT):KT:=(Yj K)
theorem FD(a0 a1:AV)(m:ae):AC ab 102 [a0,a1] m =
 (ao (AP ab) none m 103 [a0]).bind fun r1=>
 (ao (AP ab) none r1.2 103 [a1]).bind fun r2=>
 (aY false r2.1).bind fun v3=>
 (af .other .eql v3 (.int .i64 0)).bind fun v4=>
 au v4 (
 some ((.tup [(.lst none true .full []),(.lst none true .full []),(.int .i64 31)]),r2.2)) (
 (aY false r2.1).bind fun v5=>
 (af .other .eql v5 (.int .i64 1)).bind fun v6=>
 au v6 (
 (aJ none r2.1 (.int .i64 0)).bind fun v7=>
 (ai none r2.2 v7).bind fun v8=>
 (bF .u64 v8).bind fun v9=>
 (ao (AP ab) none r2.2 129 [r1.1,v9]).bind fun fR=>
 (bg fR.1 0).bind fun v11=>
 (bg fR.1 1).bind fun aV=>
 (ao (AP ab) none fR.2 70 [aV]).bind fun iT=>
 some ((.tup [v11,iT.1,(.int .i64 0)]),iT.2)) (
 (aY false r1.1).bind fun bM=>
 (aY false r2.1).bind fun bz=>
 (af .other .lss bM bz).bind fun bQ=>
 au bQ (
 some ((.tup [(.lst none true .full []),r1.1,(.int .i64 0)]),r2.2)) (
 (aY false r1.1).bind fun bV=>
 (jM none 116 none (.int .u32 0) 4 r2.2 bV bV).bind fun gi=>
 (aY false r1.1).bind fun dL=>
 (aY false r2.1).bind fun v20=>
 (af .other .sub dL v20).bind fun eg=>
 EL r1.1 r2.1 gi.1 eg gi.2 (IX (aN ab.P f102.results.toList))))):=
(bW ab 102 [a0,a1] m (fn:=f102) (c:=al f102) qdr rfl).trans (by kernel_rfl)
theorem Pm(x0 x1 x9 aT:AV)(m:ae)(K:KT):EL x0 x1 x9 aT m K =
 (af .other .geq aT (.int .i64 0)).bind fun v1=>
 au v1 (
 (ao (AP ab) none m 130 [x0,x1,aT]).bind fun r2=>
 (bg r2.1 0).bind fun v3=>
 (bg r2.1 1).bind fun v4=>
 BI x0 x1 x9 aT v3 v4 r2.2 (IY K)) (
 K (.exit 0) (Jy x0 x9 m)):=
(eu (ed _) _ _ _).trans (by kernel_rfl)
theorem Pn(x0 x1 x9 aT cn cq:AV)(m:ae)(K:KT):BI x0 x1 x9 aT cn cq m K =
 (af .other .lss cn cq).bind fun v1=>
 au v1 (
 (af .other .sub cq cn).bind fun v2=>
 (af .other .add v2 (.int .u64 1)).bind fun v3=>
 (af .other .quo v3 (.int .u64 2)).bind fun v4=>
 (af .other .add cn v4).bind fun v5=>
 (ao (AP ab) none m 131 [x1,v5,aT]).bind fun r6=>
 (ao (AP ab) none r6.2 98 [r6.1,x0]).bind fun r7=>
 (af .other .leq r7.1 (.int .i64 0)).bind fun v8=>
 au v8 (
 BI x0 x1 x9 aT v5 cq r7.2 K) (
 (af .other .sub v5 (.int .u64 1)).bind fun v9=>
 BI x0 x1 x9 aT cn v9 r7.2 K)) (
 K (.exit 2) (Jz x0 x1 x9 aT cn m)):=
(eu (ed _) _ _ _).trans (by kernel_rfl)
theorem Yg(x0 x9:AV)(m:ae):IX (aN ab.P f102.results.toList) (.exit 0) (Jy x0 x9 m) =
 (ao (AP ab) none m 103 [x9]).bind fun r1=>
 some ((.tup [r1.1,x0,(.int .i64 0)]),r1.2):=by kernel_rfl
theorem Yk(x0 x1 x9 aT cn:AV)(m:ae)(K:KT):IY K (.exit 2) (Jz x0 x1 x9 aT cn m) =
 (bF .u32 cn).bind fun v1=>
 (aJ none x9 aT).bind fun v2=>
 (aA none m v2 v1).bind fun m3=>
 (ao (AP ab) none m3 131 [x1,cn,aT]).bind fun r4=>
 (ao (AP ab) none r4.2 112 [x0,r4.1]).bind fun r5=>
 (bg r5.1 0).bind fun v6=>
 (bg r5.1 1).bind fun v7=>
 (af .other .sub aT (.int .i64 1)).bind fun v8=>
 EL v6 x1 x9 v8 r5.2 K:=by kernel_rfl
def Fo(x0 x3:AV)(m:ae):St:=⟨[x0,.any,.any,x3,.any,.any,.any,.any,.any,.any,.any,.any,.any,.any,.any,.any,.any,.any,.any,.any,.any,.any],m⟩
noncomputable def EM(x0 x3:AV)(m:ae)(K:KT):OM:=bP (aq ab 103 (AP ab) (AC ab) (c1 (c1 (c1 (c2 (c2 (al f103))))))) (ab.mask 103 (some 2)) ⟨[x0,.any,.any,x3,.any,.any,.any,.any,.any,.any,.any,.any,.any,.any,.any,.any,.any,.any,.any,.any,.any,.any],m⟩ K
noncomputable abbrev Yl(K:KT):KT:=dQ (fun st=>aq ab 103 (AP ab) (AC ab) (c2 (c2 (c2 (al f103)))) st K) K
noncomputable abbrev Ym(K:KT):KT:=dK 0 (Yl K)
noncomputable abbrev OV(K:KT):KT:=(Ym K)
theorem qbJ(a0:AV)(m:ae):AC ab 103 [a0] m =
 (aY false a0).bind fun v1=>
 EM a0 v1 m (OV (aN ab.P f103.results.toList)):=
(bW ab 103 [a0] m (fn:=f103) (c:=al f103) qds rfl).trans (by kernel_rfl)
theorem Po(x0 x3:AV)(m:ae)(K:KT):EM x0 x3 m K =
 (af .other .gtr x3 (.int .i64 0)).bind fun v1=>
 au v1 (
 (af .other .sub x3 (.int .i64 1)).bind fun v2=>
 (aJ none x0 v2).bind fun v3=>
 (ai none m v3).bind fun v4=>
 (af .other .eql v4 (.int .u32 0)).bind fun v5=>
 au v5 (
 (af .other .sub x3 (.int .i64 1)).bind fun v6=>
 EM x0 v6 m K) (
 K (.exit 0) (Fo x0 x3 m))) (
 K (.exit 0) (Fo x0 x3 m)):=
(eu (ed _) _ _ _).trans (by kernel_rfl)
theorem Yn(x0 x3:AV)(m:ae):OV (aN ab.P f103.results.toList) (.exit 0) (Fo x0 x3 m) =
 (nS none x0 none (some x3) none).bind fun v1=>
 (eG none false 116 none 4 m (.lst none true .full []) v1).bind fun r2=>
 some (r2.1,r2.2):=by kernel_rfl
def Fq(x5:AV)(m:ae):St:=⟨[.any,.any,.any,.any,.any,x5,.any,.any,.any,.any,.any,.any,.any,.any,.any,.any,.any,.any,.any,.any,.any,.any,.any,.any,.any,.any,.any,.any,.any,.any,.any,.any,.any,.any,.any,.any,.any,.any,.any,.any,.any,.any,.any,.any],m⟩
noncomputable def ug(x0 x1 x5 x6 x7:AV)(m:ae)(K:KT):OM:=bP (aq ab 111 (AP ab) (AC ab) (c1 (c1 (c2 (c1 (c2 (c2 (c2 (al f111))))))))) (ab.mask 111 (some 4)) ⟨[x0,x1,.any,.any,.any,x5,x6,x7,.any,.any,.any,.any,.any,.any,.any,.any,.any,.any,.any,.any,.any,.any,.any,.any,.any,.any,.any,.any,.any,.any,.any,.any,.any,.any,.any,.any,.any,.any,.any,.any,.any,.any,.any,.any],m⟩ K
noncomputable abbrev YF(K:KT):KT:=dQ (fun st=>aq ab 111 (AP ab) (AC ab) (c2 (c2 (c2 (c2 (al f111))))) st K) K
noncomputable abbrev YG(K:KT):KT:=dK 0 (YF K)
noncomputable abbrev I2(K:KT):KT:=(YG K)
theorem qbR(a0 a1:AV)(m:ae):AC ab 111 [a0,a1] m =
 ug a0 a1 (.lst none true .full []) (.int .u64 0) (.int .i64 0) m (I2 (aN ab.P f111.results.toList)):=
(bW ab 111 [a0,a1] m (fn:=f111) (c:=al f111) qdz rfl).trans (by kernel_rfl)
theorem Jq(x0 x1 x5 x6 x7:AV)(m:ae)(K:KT):ug x0 x1 x5 x6 x7 m K =
 (aY false x0).bind fun v1=>
 (af .other .lss x7 v1).bind fun v2=>
 au v2 (
 (ao (AP ab) none m 133 [x0,x7]).bind fun r3=>
 (ao (AP ab) none r3.2 133 [x1,x7]).bind fun r4=>
 (af .other .add r3.1 r4.1).bind fun v5=>
 (af .other .add v5 x6).bind fun v6=>
 (af .other .rem v6 (.int .u64 4294967296)).bind fun v7=>
 (bF .u32 v7).bind fun v8=>
 (iq none [v8]).bind fun v9=>
 (eG none false 116 none 4 r4.2 x5 v9).bind fun fR=>
 (af .other .quo v6 (.int .u64 4294967296)).bind fun v11=>
 (af .other .add x7 (.int .i64 1)).bind fun aV=>
 ug x0 x1 fR.1 v11 aV fR.2 K) (
 (aY false x1).bind fun bL=>
 (af .other .lss x7 bL).bind fun bM=>
 au bM (
 (ao (AP ab) none m 133 [x0,x7]).bind fun rn=>
 (ao (AP ab) none rn.2 133 [x1,x7]).bind fun js=>
 (af .other .add rn.1 js.1).bind fun bV=>
 (af .other .add bV x6).bind fun dU=>
 (af .other .rem dU (.int .u64 4294967296)).bind fun dL=>
 (bF .u32 dL).bind fun v20=>
 (iq none [v20]).bind fun eg=>
 (eG none false 116 none 4 js.2 x5 eg).bind fun Vz=>
 (af .other .quo dU (.int .u64 4294967296)).bind fun fS=>
 (af .other .add x7 (.int .i64 1)).bind fun gD=>
 ug x0 x1 Vz.1 fS gD Vz.2 K) (
 (af .other .gtr x6 (.int .u64 0)).bind fun fT=>
 au fT (
 (ao (AP ab) none m 133 [x0,x7]).bind fun oU=>
 (ao (AP ab) none oU.2 133 [x1,x7]).bind fun VA=>
 (af .other .add oU.1 VA.1).bind fun fU=>
 (af .other .add fU x6).bind fun jP=>
 (af .other .rem jP (.int .u64 4294967296)).bind fun v30=>
 (bF .u32 v30).bind fun ki=>
 (iq none [ki]).bind fun kS=>
 (eG none false 116 none 4 VA.2 x5 kS).bind fun sK=>
 (af .other .quo jP (.int .u64 4294967296)).bind fun pG=>
 (af .other .add x7 (.int .i64 1)).bind fun lB=>
 ug x0 x1 sK.1 pG lB sK.2 K) (
 K (.exit 0) (Fq x5 m)))):=
(eu (ed _) _ _ _).trans (by kernel_rfl)
theorem YH(x5:AV)(m:ae):I2 (aN ab.P f111.results.toList) (.exit 0) (Fq x5 m) =
 (ao (AP ab) none m 103 [x5]).bind fun r1=>
 some (r1.1,r1.2):=by kernel_rfl
def JE(x6:AV)(m:ae):St:=⟨[.any,.any,.any,.any,.any,.any,x6,.any,.any,.any,.any,.any,.any,.any,.any,.any,.any,.any,.any,.any,.any,.any,.any,.any,.any,.any,.any,.any,.any,.any,.any,.any,.any,.any,.any,.any,.any,.any,.any,.any,.any,.any,.any,.any],m⟩
noncomputable def BJ(x0 x1 x6 x7 x8:AV)(m:ae)(K:KT):OM:=bP (aq ab 112 (AP ab) (AC ab) (c1 (c1 (c2 (c1 (c2 (c2 (c2 (c2 (al f112)))))))))) (ab.mask 112 (some 6)) ⟨[x0,x1,.any,.any,.any,.any,x6,x7,x8,.any,.any,.any,.any,.any,.any,.any,.any,.any,.any,.any,.any,.any,.any,.any,.any,.any,.any,.any,.any,.any,.any,.any,.any,.any,.any,.any,.any,.any,.any,.any,.any,.any,.any,.any],m⟩ K
noncomputable abbrev YI(K:KT):KT:=dQ (fun st=>aq ab 112 (AP ab) (AC ab) (c2 (c2 (c2 (c2 (c2 (al f112)))))) st K) K
noncomputable abbrev YJ(K:KT):KT:=dK 0 (YI K)
noncomputable abbrev OY(K:KT):KT:=(YJ K)
theorem Qn(a0 a1:AV)(m:ae):AC ab 112 [a0,a1] m =
 (ao (AP ab) none m 98 [a0,a1]).bind fun r1=>
 (af .other .lss r1.1 (.int .i64 0)).bind fun v2=>
 au v2 (
 some ((.tup [(.lst none true .full []),(.int .i64 1)]),r1.2)) (
 BJ a0 a1 (.lst none true .full []) (.int .u64 0) (.int .i64 0) r1.2 (OY (aN ab.P f112.results.toList))):=
(bW ab 112 [a0,a1] m (fn:=f112) (c:=al f112) qdA rfl).trans (by kernel_rfl)
theorem Px(x0 x1 x6 x7 x8:AV)(m:ae)(K:KT):BJ x0 x1 x6 x7 x8 m K =
 (aY false x0).bind fun v1=>
 (af .other .lss x8 v1).bind fun v2=>
 au v2 (
 (ao (AP ab) none m 133 [x1,x8]).bind fun r3=>
 (af .other .add r3.1 x7).bind fun v4=>
 (ao (AP ab) none r3.2 133 [x0,x8]).bind fun r5=>
 (af .other .lss r5.1 v4).bind fun v6=>
 au v6 (
 (ao (AP ab) none r5.2 133 [x0,x8]).bind fun r7=>
 (af .other .mul (.int .u64 1) (.int .u64 4294967296)).bind fun v8=>
 (af .other .add r7.1 v8).bind fun v9=>
 (af .other .sub v9 v4).bind fun v10=>
 (bF .u32 v10).bind fun v11=>
 (iq none [v11]).bind fun aV=>
 (eG none false 116 none 4 r7.2 x6 aV).bind fun iT=>
 (af .other .add x8 (.int .i64 1)).bind fun bM=>
 BJ x0 x1 iT.1 (.int .u64 1) bM iT.2 K) (
 (ao (AP ab) none r5.2 133 [x0,x8]).bind fun rn=>
 (af .other .mul (.int .u64 0) (.int .u64 4294967296)).bind fun bQ=>
 (af .other .add rn.1 bQ).bind fun bV=>
 (af .other .sub bV v4).bind fun dU=>
 (bF .u32 dU).bind fun dL=>
 (iq none [dL]).bind fun v20=>
 (eG none false 116 none 4 rn.2 x6 v20).bind fun DK=>
 (af .other .add x8 (.int .i64 1)).bind fun dV=>
 BJ x0 x1 DK.1 (.int .u64 0) dV DK.2 K)) (
 K (.exit 0) (JE x6 m)):=
(eu (ed _) _ _ _).trans (by kernel_rfl)
theorem YK(x6:AV)(m:ae):OY (aN ab.P f112.results.toList) (.exit 0) (JE x6 m) =
 (ao (AP ab) none m 103 [x6]).bind fun r1=>
 some ((.tup [r1.1,(.int .i64 0)]),r1.2):=by kernel_rfl
theorem qb1(a0:AV)(m:ae):AC ab 126 [a0] m =
 (ao (AP ab) none m 103 [a0]).bind fun r1=>
 (aY false r1.1).bind fun v2=>
 (af .other .eql v2 (.int .i64 0)).bind fun v3=>
 au v3 (
 some ((.tup [(.int .u64 0),(.bool true)]),r1.2)) (
 (af .other .eql v2 (.int .i64 1)).bind fun v4=>
 au v4 (
 (aJ none r1.1 (.int .i64 0)).bind fun v5=>
 (ai none r1.2 v5).bind fun v6=>
 (bF .u64 v6).bind fun v7=>
 some ((.tup [v7,(.bool true)]),r1.2)) (
 (af .other .eql v2 (.int .i64 2)).bind fun v8=>
 au v8 (
 (aJ none r1.1 (.int .i64 1)).bind fun v9=>
 (ai none r1.2 v9).bind fun v10=>
 (bF .u64 v10).bind fun v11=>
 (af .other .shl v11 (.int .u64 32)).bind fun aV=>
 (aJ none r1.1 (.int .i64 0)).bind fun bL=>
 (ai none r1.2 bL).bind fun bM=>
 (bF .u64 bM).bind fun bz=>
 (af .other .or aV bz).bind fun bQ=>
 some ((.tup [bQ,(.bool true)]),r1.2)) (
 some ((.tup [(.int .u64 0),(.bool false)]),r1.2)))):=
(bW ab 126 [a0] m (fn:=f126) (c:=al f126) qdM rfl).trans (by kernel_rfl)
theorem qb2(a0:AV)(m:ae):AC ab 127 [a0] m =
 (ao (AP ab) none m 133 [a0,(.int .i64 0)]).bind fun r1=>
 (af .other .rem r1.1 (.int .u64 2)).bind fun v2=>
 (af .other .eql v2 (.int .u64 0)).bind fun v3=>
 some (v3,r1.2):=
(bW ab 127 [a0] m (fn:=f127) (c:=al f127) qdN rfl).trans (by kernel_rfl)
theorem qb3(a0:AV)(m:ae):AC ab 128 [a0] m =
 (ao (AP ab) none m 103 [a0]).bind fun r1=>
 (ao (AP ab) none r1.2 129 [r1.1,(.int .u64 2)]).bind fun r2=>
 (bg r2.1 0).bind fun v3=>
 (bg r2.1 1).bind fun v4=>
 some (v3,r2.2):=
(bW ab 128 [a0] m (fn:=f128) (c:=al f128) qdO rfl).trans (by kernel_rfl)
def JL(x6 x7:AV)(m:ae):St:=⟨[.any,.any,.any,.any,.any,.any,x6,x7,.any,.any,.any,.any,.any,.any,.any,.any,.any,.any,.any,.any,.any,.any,.any,.any,.any,.any,.any,.any,.any,.any,.any,.any,.any,.any,.any,.any,.any,.any,.any,.any,.any],m⟩
noncomputable def ET(x0 x1 x6 x7 x8:AV)(m:ae)(K:KT):OM:=bP (aq ab 129 (AP ab) (AC ab) (c1 (c1 (c2 (c1 (c2 (c2 (c2 (al f129))))))))) (ab.mask 129 (some 4)) ⟨[x0,x1,.any,.any,.any,.any,x6,x7,x8,.any,.any,.any,.any,.any,.any,.any,.any,.any,.any,.any,.any,.any,.any,.any,.any,.any,.any,.any,.any,.any,.any,.any,.any,.any,.any,.any,.any,.any,.any,.any,.any],m⟩ K
noncomputable abbrev Zg(K:KT):KT:=dQ (fun st=>aq ab 129 (AP ab) (AC ab) (c2 (c2 (c2 (c2 (al f129))))) st K) K
noncomputable abbrev Zh(K:KT):KT:=dK 0 (Zg K)
noncomputable abbrev Ja(K:KT):KT:=(Zh K)
theorem qb4(a0 a1:AV)(m:ae):AC ab 129 [a0,a1] m =
 (aY false a0).bind fun v1=>
 (jM none 116 none (.int .u32 0) 4 m v1 v1).bind fun r2=>
 (aY false a0).bind fun v3=>
 (af .other .sub v3 (.int .i64 1)).bind fun v4=>
 ET a0 a1 r2.1 (.int .u64 0) v4 r2.2 (Ja (aN ab.P f129.results.toList)):=
(bW ab 129 [a0,a1] m (fn:=f129) (c:=al f129) qdP rfl).trans (by kernel_rfl)
theorem PH(x0 x1 x6 x7 x8:AV)(m:ae)(K:KT):ET x0 x1 x6 x7 x8 m K =
 (af .other .geq x8 (.int .i64 0)).bind fun v1=>
 au v1 (
 (af .other .mul x7 (.int .u64 4294967296)).bind fun v2=>
 (aJ none x0 x8).bind fun v3=>
 (ai none m v3).bind fun v4=>
 (bF .u64 v4).bind fun v5=>
 (af .other .add v2 v5).bind fun v6=>
 (af .other .quo v6 x1).bind fun v7=>
 (bF .u32 v7).bind fun v8=>
 (aJ none x6 x8).bind fun v9=>
 (aA none m v9 v8).bind fun m10=>
 (af .other .rem v6 x1).bind fun v11=>
 (af .other .sub x8 (.int .i64 1)).bind fun aV=>
 ET x0 x1 x6 v11 aV m10 K) (
 K (.exit 0) (JL x6 x7 m)):=
(eu (ed _) _ _ _).trans (by kernel_rfl)
theorem Zi(x6 x7:AV)(m:ae):Ja (aN ab.P f129.results.toList) (.exit 0) (JL x6 x7 m) =
 (ao (AP ab) none m 103 [x6]).bind fun r1=>
 some ((.tup [r1.1,x7]),r1.2):=by kernel_rfl
theorem qb5(a0 a1 a2:AV)(m:ae):AC ab 130 [a0,a1,a2] m =
 (aY false a1).bind fun v1=>
 (af .other .add a2 v1).bind fun v2=>
 (ao (AP ab) (some m.length) m 133 [a0,v2]).bind fun r3=>
 (af .other .shl r3.1 (.int .u64 32)).bind fun v4=>
 (af .other .add a2 v1).bind fun v5=>
 (af .other .sub v5 (.int .i64 1)).bind fun v6=>
 (ao (AP ab) (some m.length) r3.2 133 [a0,v6]).bind fun r7=>
 (af .other .or v4 r7.1).bind fun v8=>
 (af .other .sub v1 (.int .i64 1)).bind fun v9=>
 (aJ none a1 v9).bind fun v10=>
 (ai none r7.2 v10).bind fun v11=>
 (bF .u64 v11).bind fun aV=>
 (af .other .quo v8 aV).bind fun bL=>
 (af .other .lss bL (.int .u64 4294967295)).bind fun bM=>
 au bM (
 (af .other .quo v8 aV).bind fun bz=>
 (af .other .add aV (.int .u64 1)).bind fun bQ=>
 (af .other .lss bQ (.int .u64 4294967296)).bind fun bV=>
 au bV (
 (af .other .add aV (.int .u64 1)).bind fun dU=>
 (af .other .quo v8 dU).bind fun dL=>
 (af .other .lss dL (.int .u64 4294967296)).bind fun v20=>
 au v20 (
 (af .other .add aV (.int .u64 1)).bind fun eg=>
 (af .other .quo v8 eg).bind fun dV=>
 (af .other .gtr dV bz).bind fun fS=>
 au fS (
 some ((.tup [bz,bz]),r7.2)) (
 some ((.tup [dV,bz]),r7.2))) (
 (af .other .gtr (.int .u64 0) bz).bind fun gD=>
 au gD (
 some ((.tup [bz,bz]),r7.2)) (
 some ((.tup [(.int .u64 0),bz]),r7.2)))) (
 (af .other .gtr (.int .u64 0) bz).bind fun fT=>
 au fT (
 some ((.tup [bz,bz]),r7.2)) (
 some ((.tup [(.int .u64 0),bz]),r7.2)))) (
 (af .other .add aV (.int .u64 1)).bind fun gW=>
 (af .other .lss gW (.int .u64 4294967296)).bind fun gL=>
 au gL (
 (af .other .add aV (.int .u64 1)).bind fun fU=>
 (af .other .quo v8 fU).bind fun jP=>
 (af .other .lss jP (.int .u64 4294967296)).bind fun v30=>
 au v30 (
 (af .other .add aV (.int .u64 1)).bind fun ki=>
 (af .other .quo v8 ki).bind fun kS=>
 (af .other .gtr kS (.int .u64 4294967295)).bind fun lA=>
 au lA (
 some ((.tup [(.int .u64 4294967295),(.int .u64 4294967295)]),r7.2)) (
 some ((.tup [kS,(.int .u64 4294967295)]),r7.2))) (
 (af .other .gtr (.int .u64 0) (.int .u64 4294967295)).bind fun pG=>
 au pG (
 some ((.tup [(.int .u64 4294967295),(.int .u64 4294967295)]),r7.2)) (
 some ((.tup [(.int .u64 0),(.int .u64 4294967295)]),r7.2)))) (
 (af .other .gtr (.int .u64 0) (.int .u64 4294967295)).bind fun lB=>
 au lB (
 some ((.tup [(.int .u64 4294967295),(.int .u64 4294967295)]),r7.2)) (
 some ((.tup [(.int .u64 0),(.int .u64 4294967295)]),r7.2)))):=
(bW ab 130 [a0,a1,a2] m (fn:=f130) (c:=al f130) qdR rfl).trans (by kernel_rfl)
def JM(x7 x8:AV)(m:ae):St:=⟨[.any,.any,.any,.any,.any,.any,.any,x7,x8,.any,.any,.any,.any,.any,.any,.any,.any,.any,.any,.any,.any,.any,.any,.any,.any,.any,.any,.any,.any,.any,.any,.any,.any,.any,.any,.any,.any,.any,.any,.any,.any,.any],m⟩
noncomputable def EU(x0 x1 x7 x8 x9:AV)(m:ae)(K:KT):OM:=bP (aq ab 131 (AP ab) (AC ab) (c1 (c1 (c2 (c1 (c2 (c2 (c2 (al f131))))))))) (ab.mask 131 (some 4)) ⟨[x0,x1,.any,.any,.any,.any,.any,x7,x8,x9,.any,.any,.any,.any,.any,.any,.any,.any,.any,.any,.any,.any,.any,.any,.any,.any,.any,.any,.any,.any,.any,.any,.any,.any,.any,.any,.any,.any,.any,.any,.any,.any],m⟩ K
noncomputable abbrev Zj(K:KT):KT:=dQ (fun st=>aq ab 131 (AP ab) (AC ab) (c2 (c2 (c2 (c2 (al f131))))) st K) K
noncomputable abbrev Zk(K:KT):KT:=dK 0 (Zj K)
noncomputable abbrev O3(K:KT):KT:=(Zk K)
theorem qb6(a0 a1 a2:AV)(m:ae):AC ab 131 [a0,a1,a2] m =
 (yI none none (.int .u32 0) 4 m a2 a2).bind fun r1=>
 EU a0 a1 r1.1 (.int .u64 0) (.int .i64 0) r1.2 (O3 (aN ab.P f131.results.toList)):=
(bW ab 131 [a0,a1,a2] m (fn:=f131) (c:=al f131) qdS rfl).trans (by kernel_rfl)
theorem PI(x0 x1 x7 x8 x9:AV)(m:ae)(K:KT):EU x0 x1 x7 x8 x9 m K =
 (aY false x0).bind fun v1=>
 (af .other .lss x9 v1).bind fun v2=>
 au v2 (
 (aJ none x0 x9).bind fun v3=>
 (ai none m v3).bind fun v4=>
 (bF .u64 v4).bind fun v5=>
 (af .other .mul v5 x1).bind fun v6=>
 (af .other .add v6 x8).bind fun v7=>
 (af .other .rem v7 (.int .u64 4294967296)).bind fun v8=>
 (bF .u32 v8).bind fun v9=>
 (iq none [v9]).bind fun v10=>
 (eG none false 116 none 4 m x7 v10).bind fun iH=>
 (af .other .quo v7 (.int .u64 4294967296)).bind fun aV=>
 (af .other .add x9 (.int .i64 1)).bind fun bL=>
 EU x0 x1 iH.1 aV bL iH.2 K) (
 K (.exit 0) (JM x7 x8 m)):=
(eu (ed _) _ _ _).trans (by kernel_rfl)
theorem Zl(x7 x8:AV)(m:ae):O3 (aN ab.P f131.results.toList) (.exit 0) (JM x7 x8 m) =
 (bF .u32 x8).bind fun v1=>
 (iq none [v1]).bind fun v2=>
 (eG none false 116 none 4 m x7 v2).bind fun r3=>
 (ao (AP ab) none r3.2 103 [r3.1]).bind fun r4=>
 some (r4.1,r4.2):=by kernel_rfl
theorem qb7(a0 a1:AV)(m:ae):AC ab 133 [a0,a1] m =
 (aY false a0).bind fun v1=>
 (af .other .lss a1 v1).bind fun v2=>
 au v2 (
 (aJ none a0 a1).bind fun v3=>
 (ai none m v3).bind fun v4=>
 (bF .u64 v4).bind fun v5=>
 some (v5,m)) (
 some ((.int .u64 0),m)):=
(bW ab 133 [a0,a1] m (fn:=f133) (c:=al f133) qdU rfl).trans (by kernel_rfl)
end Go.Ab
namespace Go.Ab
open Go.Proofs.Try
def nQ(m:ae)(ds:List Nat):NV:=if ds=[] then ⟨true,.full,[]⟩ else ⟨false,.tok m.length 116,ds⟩
def oV(m:ae)(ds:List Nat):ae:=if ds=[] then m else pF m ds.length
def mV(ds:List Nat):NV:=if ds=[] then ⟨true,.full,[]⟩ else ⟨false,.no,ds⟩
theorem qi0(m:ae)(ds:List Nat):(nQ m ds).fr=mV ds:=by unfold nQ mV;split<;>rfl
theorem VP(ds:List Nat):(mV ds).fr=mV ds:=by unfold mV;split<;>rfl
theorem rq(ds:List Nat):(mV ds).ds=ds:=by
 unfold mV
 split
 .rename_i h;rw[h]
 .rfl
theorem Lf(m:ae)(ds:List Nat):Fz (nQ m ds).av (mV ds).av:=by
 have:=dN (nQ m ds)
 rwa [qi0] at this
theorem Nz{ds:List Nat}(h:Dg ds)(h':ds.length<2^40):NOk (mV ds):=by
 refine ⟨by rw[rq];exact h,by rw[rq];exact h',?_⟩;unfold mV
 split
 .intro _;rfl
 .intro h;cases h
theorem VQ(ds:List Nat):(mV ds).v=val ds:=by rw[NV.v,rq]
theorem jj{R:Type}{x y:Option R}:au (.bool true) x y=x:=rfl
theorem fF{R:Type}{x y:Option R}:au (.bool false) x y=y:=rfl
theorem Rs{m:ae}{ds:List Nat}{z:Bool}{o:Own}(h:ds.length*4<=iU):eG none false 116 none 4 m (.lst none true .full []) (.lst none z o (ds.map dg))=some ((nQ m ds).av,oV m ds):=by
 cases ds with
 | nil=>rfl
 | cons d ds=>
  have h2:(ds.length+1)*4<=iU:=by simpa using h
  simp only[nQ,oV,NV.av,eG,qn,aR,aX,gu,aL,h2,eC,ak,pF,Sh.size,aZ,reduceCtorEq,j6,ko,or_true,aL]
theorem Ky{m:ae}{ds:List Nat}{v:Nat}(h:(ds.length+1)*4<=iU):eG none false 116 none 4 (oV m ds) (nQ m ds).av (.lst none false .full [.int .u32 v])=some ((nQ m (ds++[v])).av,oV m (ds++[v])):=by
 cases ds with
 | nil=>exact Rs (ds:=[v]) h
 | cons d ds=>
  have:=F3 (e:=116) (b:=4) (m:=m) (es:=(d::ds).map dg) (z:=false) (o:=.full) (y:=.int .u32 v) (by rw[gu];exact h);rw[gu] at this;simp only[nQ,oV,reduceCtorEq,j6,NV.av];rw[this];simp[dg,nQ,oV]
def bn(n:Nat):NV:=mV (an n)
theorem gZ(n:Nat):(bn n).fr=bn n:=VP _
theorem jd(n:Nat):(bn n).ds=an n:=rq _
theorem dZ(n:Nat):(bn n).v=n:=by rw[NV.v,jd,fG]
theorem fw{n:Nat}(h:(an n).length<2^40):NOk (bn n):=Nz (eU n) h
theorem oo(n:Nat):aY false (bn n).av=some (.int .i64 (an n).length):=by rw[fk,jd]
theorem gT(n:Nat):Fz (bn n).av (bn n).av:=by
 have:=dN (bn n)
 rwa [gZ] at this
theorem wg(n:Nat):∀m k,frz m (k+1) (bn n).av=some ((bn n).av,[]):=by
 have:=pf (bn n)
 rwa [gZ] at this
theorem qcD(x:NV)(m:ae)(K:KT):∀n:Nat,n<=x.ds.length->x.ds.length<2^62->EM x.av (.int .i64 n) m K=K (.exit 0) (Fo x.av (.int .i64 (lW x.ds n)) m):=by
 intro n
 induction n with
 | zero=>
  intro _ _;rw[Po];simp[pa,au,lW]
 | succ n ih=>
  intro hn hl;have ih:=ih (by omega) hl;rw[Po];have h1:((n+1:Nat):Int)>0:=by omega
  have h2:IntKind.wrap .i64 (((n+1:Nat):Int)-1)=n:=by rw[km]<;>omega
  simp only[pa,aa,aw,aj h1,qu,h2];rw[NV.av,tQ (by omega) (by omega)];simp only[aa,qd,dg,iY,aw,nG];rw[lW]
  by_cases h:x.ds.getD n 0=0
  .rw[aj (by omega),aj h];exact ih
  .rw[ag (by omega),ag h]
theorem xz(x:NV)(dx:Dg x.ds)(hl:x.ds.length<2^41):AP ab 103 [x.av]=some (bn x.v).av:=by
 have ht:=DY x.ds x.ds.length;refine bT _ _ (Lf [] (an x.v)) (pB _) (m:=oV [] (an x.v)) ?_;rw[qbJ,fk,aa,qcD x [] _ _ (aW _) (by omega),Yn];have hs:=NN (z:=x.z) (o:=x.o) (ds:=x.ds) (k:=.i64) (i:=lW x.ds x.ds.length) (by omega) (by omega);rw[<- NV.av] at hs;rw[hs,aa];have he:x.ds.take (lW x.ds x.ds.length)=an x.v:=ll dx;have hdl:=R9 dx;rw[nG,he,Rs (by rw[NV.v];simp only[iU];omega)]
 rfl
theorem qQ{x:NV}(h:NOk x):AP ab 103 [x.av]=some (bn x.v).av:=xz x h.dg (by have:=h.len;omega)
theorem uw{x:NV}{i:Nat}(h:NOk x)(hi:i<2^60):AP ab 133 [x.av,.int .i64 i]=some (.int .u64 (x.ds.getD i 0:Nat)):=by
 have:=h.dg i;refine jE (m:=[]) ?_ (eK _ _ _) (by simp[gV]);rw[qb7,fk,aa,bR,aa,aw]
 by_cases hl:i<x.ds.length
 .rw[aj hl,lR hl,aa,j7,aa,mE _ this,aa]
 .rw[ag hl,xW (by omega)];rfl
theorem Q5{x:NV}(h:NOk x):AP ab 97 [x.av]=some (.bool (pe x.ds)):=by
 have hx:=h.len;refine jE (m:=[]) ?_ (qU _ _) (by simp[gV]);rw[<- Nv h.dg,T97,fk,aa,mg,aa,aw]
 by_cases h0:x.ds.length=0
 .rw[aj h0];simp[wS,h0]
 .rw[ag h0,aa,tP (by omega) (by omega),aa,lR (by omega),aa,j7,aa,dg,UW,aa];simp[wS,h0]
theorem W98(x y:NV)(m:ae)(K:KT)(hl:x.ds.length<2^62):∀n:Nat,n<=x.ds.length->n<=y.ds.length ->
  Fe x.av y.av (.int .i64 ((n:Int)-1)) m K=if mG x.ds y.ds n=0 then K (.exit 0) (J7 m) else K .ret (FB (.int .i64 (mG x.ds y.ds n)) m):=by
 intro n
 induction n with
 | zero=>
  intro _ _;rw[P9];simp[o9,au,mG]
 | succ n ih=>
  intro hx hy;have ih:=ih (by omega) (by omega);rw[P9,show ((n+1:Nat):Int)-1=(n:Nat) by omega,DD,aa,jj];rw[lR (by omega),aa,j7,aa,lR (by omega),aa,j7,aa,dg,dg,DF,aa,aw]
  by_cases h:x.ds.getD n 0=y.ds.getD n 0
  .have hc:mG x.ds y.ds (n+1)=mG x.ds y.ds n:=by rw[mG,ag (by omega),ag (by omega)]
   rw[hc,ag (fun hn=>hn h),qA (by omega),aa];exact ih
  .rw[aj h,aa,j7,aa,aa,j7,aa,bR,aa,aw]
   by_cases h2:x.ds.getD n 0<y.ds.getD n 0
   .have hc:mG x.ds y.ds (n+1)=-1:=by rw[mG,aj h2]
    rw[hc,aj h2];rfl
   .have hc:mG x.ds y.ds (n+1)=1:=by rw[mG,ag h2,aj (by omega)]
    rw[hc,ag h2];rfl
theorem xD{x y:NV}(hx:NOk x)(hy:NOk y):AP ab 98 [x.av,y.av]=some (.int .i64 (gS x.v y.v)):=by
 have lx:=hx.v_len';have ly:=hy.v_len';refine jE (m:=[]) ?_ (eK _ _ _) (by simp[gV]);rw[T98,dW (dN x),qQ hx.fr,ar,aa,dW (dN y),qQ hy.fr,ar,aa];rw[show x.fr.v=x.v from rfl,show y.fr.v=y.v from rfl,oo,aa,oo,aa,DF,aa,aw,<- RP]
 by_cases h:(an x.v).length=(an y.v).length
 .have hc:uC (an x.v) (an y.v)=mG (an x.v) (an y.v) (an x.v).length:=by
   unfold uC;rw[ag (by omega),ag (by omega)]
  rw[hc,ag (fun hn=>hn h),aa,qA (by omega),aa];have:=W98 (bn x.v) (bn y.v) [] (EJ (aN ab.P f98.results.toList)) (by rw[jd];omega) (an x.v).length (by rw[jd];exact aW _) (by rw[jd];omega);rw[this,qaP,qaO,jd,jd]
  split
  .rename_i h0;rw[h0]
  .rfl
 .rw[aj h,aa,aa,bR,aa,aw];unfold uC
  by_cases h2:(an x.v).length<(an y.v).length
  .rw[aj h2,aj h2]
  .have h3:(an x.v).length>(an y.v).length:=by omega
   rw[ag h2,ag h2,aj h3]
theorem FO{n:Nat}(h:n<18446744073709551616):AP ab 70 [.int .u64 n]=some (bn n).av:=by
 have hb:∀a b:Nat,iq none [.int .u32 (a:Nat),.int .u32 (b:Nat)]=some (NV.av ⟨false,.full,[a,b]⟩):=fun _ _=>rfl;have hd:Dg [n%4294967296,n/4294967296]:=mJ.2 ⟨jx _ (by omega),uD (by omega)⟩;refine bT _ _ (gT n) (pB _) (m:=[]) ?_;rw[T70,mF,aa,Io,aa,mF,aa,ku (by omega:n/4294967296<4294967296),hb,aa,dW (dN _),qQ (NOk.fr ⟨hd,by simp,by simp⟩)];simp only[ar,aa,NV.fr,NV.v,val];congr 4;omega
theorem QJ{x:NV}(h:NOk x):AP ab 126 [x.av]=some (sW x.v):=by
 have e:sW x.v=sV (bn x.v).ds:=by rw[jd,Wt]
 rw[e];refine jE (m:=[]) ?_ ((GF _).1 _) (by simp[(GF _).2]);rw[qb1,dW (dN x),qQ h.fr];have dt:Dg (bn x.v).ds:=by rw[jd];exact eU _
 simp only[ar,aa];rw[show x.fr.v=x.v from rfl];generalize bn x.v=a at dt;rw[fk,aa,mg,aa,aw];obtain ⟨z,o,ds⟩:=a
 match ds,dt with
 | [],_=>rfl
 | [d],dt=>
  have h0:=(mJ.1 dt).1;rw[ag (by simp),ve,aa,aw,aj (by simp),Hj (by simp),aa,j7,aa];simp only[rK];rw[mE d h0]
  rfl
 | [d,e],dt=>
  have h0:=(mJ.1 dt).1;have h1:=(mJ.1 (mJ.1 dt).2).1;have i1:aJ none (NV.mk z o [d,e]).av (.int .i64 1)=some (.vptr [dg e]):=rfl;rw[ag (by simp),ve,aa,aw,ag (by simp),UU,aa,aw,aj (by simp),i1,aa,j7,aa,mE e h1,aa,D1 h1,aa,Hj (by simp),aa,j7,aa];simp only[rK];rw[mE d h0,aa,D0 h1 h0,aa];simp only[sV,th]
 | d::e::f::l,_=>
  rw[ag (by simp),ve,aa,aw,ag (by simp),UU,aa,aw,ag (by simp)]
  rfl
end Go.Ab
namespace Go.Ab
open Go.Proofs.Try
theorem N0{tk:TK}{a:Nat}(h:a<18446744073709551616):af tk .rem (.int .u64 a) (.int .u64 4294967296)=some (.int .u64 (a%4294967296:Nat)):=Bl (b:=4294967296) (by omega) h
theorem NZ{tk:TK}{a:Nat}(h:a<18446744073709551616):af tk .quo (.int .u64 a) (.int .u64 4294967296)=some (.int .u64 (a/4294967296:Nat)):=zg (b:=4294967296) (by omega) h
theorem Xa{tk:TK}{a:Nat}:af tk .gtr (.int .u64 a) (.int .u64 0)=some (.bool (decide (a>0))):=sF
theorem ML(a:Nat):a%4294967296%4294967296=a%4294967296:=Nat.mod_mod _ _
theorem Ci(n:Nat):iq none [.int .u32 (n:Nat)]=some (.lst none false .full [.int .u32 n]):=rfl
theorem IB{x y:NV}(hx:NOk x)(hy:NOk y)(m:ae)(K:KT)(i:Nat)(hi:i<2^41)(fx:x.fr=x)(fy:y.fr=y) :
  ((ao (AP ab) none (oV m (dR x.ds y.ds i).1) 133 [x.av,.int .i64 i]).bind fun r3=>
  (ao (AP ab) none r3.2 133 [y.av,.int .i64 i]).bind fun r4=>
  (af .other .add r3.1 r4.1).bind fun v5=>
  (af .other .add v5 (.int .u64 (dR x.ds y.ds i).2)).bind fun v6=>
  (af .other .rem v6 (.int .u64 4294967296)).bind fun v7=>
  (bF .u32 v7).bind fun v8=>
  (iq none [v8]).bind fun v9=>
  (eG none false 116 none 4 r4.2 (nQ m (dR x.ds y.ds i).1).av v9).bind fun fR=>
  (af .other .quo v6 (.int .u64 4294967296)).bind fun v11=>
  (af .other .add (.int .i64 i) (.int .i64 1)).bind fun aV=>
  ug x.av y.av fR.1 v11 aV fR.2 K) =
  ug x.av y.av (nQ m (dR x.ds y.ds (i+1)).1).av (.int .u64 (dR x.ds y.ds (i+1)).2) (.int .i64 (i+1:Nat)) (oV m (dR x.ds y.ds (i+1)).1) K:=by
 have fzx:=dN x;have fzy:=dN y;rw[fx] at fzx;rw[fy] at fzy;have hc:=xE hx.dg hy.dg i;have h1:=hx.dg i;have h2:=hy.dg i;have hl:=vN x.ds y.ds i;have e:(dR x.ds y.ds i).2+x.ds.getD i 0+y.ds.getD i 0=x.ds.getD i 0+y.ds.getD i 0+(dR x.ds y.ds i).2:=by omega
 simp only[dR,e]
 rw[gO fzx (eK _ _),uw hx (by omega),ar,aa,gO fzy (eK _ _),uw hy (by omega),ar,aa,
  nU (by omega),aa,nU (by omega),aa,N0 (by omega),aa,mF,aa,ML,Ci,aa,
  Ky (by rw[hl];simp only[iU];omega),aa,NZ (by omega),aa,eF (by omega),aa]
def rS(a b:List Nat):Nat:=if (dR a b (max a.length b.length)).2>0 then max a.length b.length+1 else max a.length b.length
theorem qc5{a b:List Nat}(ha:Dg a)(hb:Dg b):val (dR a b (rS a b)).1=val a+val b:=by
 have hc:=xE ha hb (max a.length b.length)
 have e1:∀n,max a.length b.length<=n->(dR a b n).2=0->val (dR a b n).1=val a+val b:=by
  intro n hn h0;have:=Kv a b n;rw[h0,mA,jo,iW (by omega),iW (by omega)] at this;exact this
 unfold rS
 split
 .refine e1 _ (by omega) ?_;have o1:a.getD (max a.length b.length) 0=0:=xW (by omega);have o2:b.getD (max a.length b.length) 0=0:=xW (by omega);simp only[dR,o1,o2];omega
 .exact e1 _ (aW _) (by omega)
theorem qcE{x y:NV}(hx:NOk x)(hy:NOk y)(m:ae)(K:KT)(fx:x.fr=x)(fy:y.fr=y):∀j i:Nat,i+j=max x.ds.length y.ds.length ->
  ∃v,ug x.av y.av (nQ m (dR x.ds y.ds i).1).av (.int .u64 (dR x.ds y.ds i).2) (.int .i64 i) (oV m (dR x.ds y.ds i).1) K
   = K (.exit 0) (Fq (nQ m (dR x.ds y.ds (rS x.ds y.ds)).1).av v):=by
 have lx:=hx.len;have ly:=hy.len
 have lst:∀i,x.ds.length<=i->y.ds.length<=i->i<2^41->(dR x.ds y.ds i).2=0 ->
   ug x.av y.av (nQ m (dR x.ds y.ds i).1).av (.int .u64 (dR x.ds y.ds i).2) (.int .i64 i) (oV m (dR x.ds y.ds i).1) K=K (.exit 0) (Fq (nQ m (dR x.ds y.ds i).1).av (oV m (dR x.ds y.ds i).1)):=by
  intro i h1 h2 h3 h4;rw[Jq,fk,aa,bR,aa,aw,ag (by omega),fk,aa,bR,aa,aw,ag (by omega),Xa,aa,aw,ag (by omega)]
 intro j
 induction j with
 | zero=>
  intro i hi;have hi:i=max x.ds.length y.ds.length:=by omega
  by_cases hc:(dR x.ds y.ds i).2>0
  .have ht:rS x.ds y.ds=i+1:=by unfold rS;rw[<- hi,aj hc]
   have o1:x.ds.getD i 0=0:=xW (by omega);have o2:y.ds.getD i 0=0:=xW (by omega);have kG:=xE hx.dg hy.dg i;refine ⟨oV m (dR x.ds y.ds (i+1)).1,?_⟩;rw[Jq,fk,aa,bR,aa,aw,ag (by omega),fk,aa,bR,aa,aw,ag (by omega),Xa,aa,aw,aj hc,IB hx hy m K i (by omega) fx fy,ht];exact lst (i+1) (by omega) (by omega) (by omega) (by simp only[dR,o1,o2];omega)
  .have ht:rS x.ds y.ds=i:=by unfold rS;rw[<- hi,ag hc]
   rw[ht];exact ⟨_,lst i (by omega) (by omega) (by omega) (by omega)⟩
 | succ j ih=>
  intro i hi;obtain ⟨v,ih⟩:=ih (i+1) (by omega);refine ⟨v,?_⟩;rw[Jq,fk,aa,bR,aa,aw]
  by_cases h1:i<x.ds.length
  .rw[aj h1,IB hx hy m K i (by omega) fx fy];exact ih
  .rw[ag h1,fk,aa,bR,aa,aw,aj (by omega),IB hx hy m K i (by omega) fx fy];exact ih
theorem QG{x y:NV}(hx:NOk x)(hy:NOk y)(fx:x.fr=x)(fy:y.fr=y):AP ab 111 [x.av,y.av]=some (bn (x.v+y.v)).av:=by
 have lx:=hx.len;have ly:=hy.len;obtain ⟨v,hw⟩:=qcE hx hy [] (I2 (aN ab.P f111.results.toList)) fx fy (max x.ds.length y.ds.length) 0 (by omega);have hl:=vN x.ds y.ds (rS x.ds y.ds);have hT:rS x.ds y.ds<=max x.ds.length y.ds.length+1:=by unfold rS;split<;>omega
 have hd:=Ku x.ds y.ds (rS x.ds y.ds);refine bT _ _ (gT _) (pB _) (m:=v) ?_;rw[qbR];refine hw.trans ?_;rw[YH,dW (Lf _ _),xz _ (by rw[rq];exact hd) (by rw[rq,hl];omega),VQ,qc5 hx.dg hy.dg]
 rfl
def jt(a b:List Nat):Nat->List Nat×Nat
 | 0=>([],0)
 | i+1=>if a.getD i 0<b.getD i 0+(jt a b i).2 then ((jt a b i).1++[a.getD i 0+4294967296-(b.getD i 0+(jt a b i).2)],1)
  else ((jt a b i).1++[a.getD i 0-(b.getD i 0+(jt a b i).2)],0)
theorem DW(a b:List Nat):∀i,(jt a b i).1.length=i
 | 0=>rfl
 | i+1=>by simp only[jt];split<;>simp[DW a b i]
theorem Ia(a b:List Nat):∀i,(jt a b i).2<=1
 | 0=>by simp[jt]
 | i+1=>by simp only[jt];split<;>simp
theorem Ib{a b:List Nat}(ha:Dg a)(hb:Dg b):∀i,Dg (jt a b i).1
 | 0=>xO
 | i+1=>by
  have:=Ia a b i;have h1:=ha i;have h2:=hb i;simp only[jt]
  split
  .exact xN (Ib ha hb i) (uD (by omega))
  .exact xN (Ib ha hb i) (uD (by omega))
theorem qjF{a b:List Nat}(ha:Dg a)(hb:Dg b)(i:Nat):val (jt a b i).1+vs b i=vs a i+4294967296^i*(jt a b i).2:=by
 induction i with
 | zero=>
  rw[jt,rC,rC]
  rfl
 | succ i ih=>
  have hl:=DW a b i;have hc:=Ia a b i;have h1:=ha i;have h2:=hb i;rw[ju,ju,jS,jt];obtain ⟨s1,s2⟩:=WG (x:=a.getD i 0) (y:=b.getD i 0) (v1:=4294967296) ih;rw[th (jt a b i).2] at s1 s2
  split
  .rename_i aG;simp only[];rw[xd,hl,val,val,mA,jo];exact s1 aG (by omega)
  .rename_i aG;simp only[];rw[xd,hl,val,val,mA,jo];exact s2 aG
theorem qjE{a b:List Nat}(ha:Dg a)(hb:Dg b)(h:val b<=val a):val (jt a b a.length).1=val a-val b:=by
 have h1:=qjF ha hb a.length;rw[iW (aW _),Xn ha h] at h1;have h2:=mY (Ib ha hb a.length);rw[DW] at h2;have h3:=mY ha;have hc:=Ia a b a.length
 have:(jt a b a.length).2=0:=by
  apply jv;intro hn;have e:(jt a b a.length).2=1:=by omega
  rw[e,qo] at h1;omega
 rw[this,mA,jo] at h1;omega
theorem qcF{x y:NV}(hx:NOk x)(hy:NOk y)(m:ae)(K:KT)(fx:x.fr=x)(fy:y.fr=y):∀j i:Nat,i+j=x.ds.length ->
  BJ x.av y.av (nQ m (jt x.ds y.ds i).1).av (.int .u64 (jt x.ds y.ds i).2) (.int .i64 i) (oV m (jt x.ds y.ds i).1) K
   = K (.exit 0) (JE (nQ m (jt x.ds y.ds x.ds.length).1).av (oV m (jt x.ds y.ds x.ds.length).1)):=by
 have lx:=hx.len;have fzx:=dN x;have fzy:=dN y;rw[fx] at fzx;rw[fy] at fzy;intro j
 induction j with
 | zero=>
  intro i hi;have:i=x.ds.length:=by omega
  subst this;rw[Px,fk,aa,bR,aa,aw,ag (by omega)]
 | succ j ih=>
  intro i hi;have ih:=ih (i+1) (by omega);have hc:=Ia x.ds y.ds i;have h1:=hx.dg i;have h2:=hy.dg i;have hl:=DW x.ds y.ds i;have s1:af .other .mul (.int .u64 1) (.int .u64 4294967296)=some (.int .u64 (4294967296:Nat)):=rfl;have s0:af .other .mul (.int .u64 0) (.int .u64 4294967296)=some (.int .u64 (0:Nat)):=rfl;rw[Px,fk,aa,bR,aa,aw,aj (by omega),gO fzy (eK _ _),uw hy (by omega),ar,aa,nU (by omega),aa,gO fzx (eK _ _),uw hx (by omega),ar,aa,bR,aa,aw];simp only[jt] at ih
  by_cases h:x.ds.getD i 0<y.ds.getD i 0+(jt x.ds y.ds i).2
  .rw[aj h] at ih ⊢
   rw[gO fzx (eK _ _),uw hx (by omega),ar,aa,s1,aa,nU (by omega),aa,zh (by omega) (by omega),aa,mF,aa,Ci,aa,ku (by omega),
    Ky (by rw[hl];simp only[iU];omega),aa,eF (by omega),aa]
   exact ih
  .rw[ag h] at ih ⊢
   rw[gO fzx (eK _ _),uw hx (by omega),ar,aa,s0,aa,nU (by omega),aa,zh (by omega) (by omega),aa,mF,aa,Ci,aa,ku (by omega),
    Ky (by rw[hl];simp only[iU];omega),aa,eF (by omega),aa]
   exact ih
def Bf(x y:NV):AV:=if x.v<y.v then .tup [AM,.int .i64 1] else .tup [(bn (x.v-y.v)).av,.int .i64 0]
theorem B4{x y:NV}(hx:NOk x)(hy:NOk y)(fx:x.fr=x)(fy:y.fr=y):AP ab 112 [x.av,y.av]=some (Bf x y):=by
 have lx:=hx.len;have fzx:=dN x;have fzy:=dN y;rw[fx] at fzx;rw[fy] at fzy;unfold Bf
 by_cases h:x.v<y.v
 .rw[aj h];refine bT _ _ (wc Al (gH _ _)) rfl (m:=[]) ?_;rw[Qn,gO fzx fzy,xD hx hy,ar,aa,gw,aa,aw,gS,aj h,aj (by omega)]
 .rw[ag h];have hl:=DW x.ds y.ds x.ds.length;have hd:=Ib hx.dg hy.dg x.ds.length;refine bT _ _ (wc (wg (x.v-y.v)) (gH _ _)) rfl (m:=oV [] (jt x.ds y.ds x.ds.length).1) ?_;have hc:¬ gS x.v y.v<0:=by unfold gS;rw[ag h];split<;>omega
  rw[Qn,gO fzx fzy,xD hx hy,ar,aa,gw,aa,aw,ag hc];refine (qcF hx hy [] _ fx fy x.ds.length 0 (by omega)).trans ?_;rw[YK,dW (Lf _ _),xz _ (by rw[rq];exact hd) (by rw[rq,hl];omega),VQ,qjE hx.dg hy.dg (vG h)]
  rfl
theorem qcT(x y:NV)(m:ae)(K:KT)(i n:Nat)(s:List Nat×Nat)(hl:n<2^42)(hn:s.1.length=n)(hi:i+y.ds.length<=n)(LL:i<x.ds.length)(dx:Dg x.ds)(dy:Dg y.ds)(hs:Dg s.1)(hc:s.2<4294967296):∀j k:Nat,k+j=y.ds.length ->
  E8 x.av y.av (.arr m.length 0 n none) (.int .i64 i) (.int .u64 (fP y.ds (x.ds.getD i 0) i k s).2) (.int .i64 k) (m++[oc (fP y.ds (x.ds.getD i 0) i k s).1]) K
   = K (.exit 2) (J0 x.av y.av (.arr m.length 0 n none) (.int .i64 i) (.int .u64 (fP y.ds (x.ds.getD i 0) i y.ds.length s).2) (m++[oc (fP y.ds (x.ds.getD i 0) i y.ds.length s).1])):=by
 intro j
 induction j with
 | zero=>
  intro k hk;have:k=y.ds.length:=by omega
  subst this;rw[P2,fk,aa,bR,aa,aw,ag (by omega)]
 | succ j ih=>
  intro k hk;have ih:=ih (k+1) (by omega);have hx:=dx i;obtain ⟨h1,h2⟩:=AL (i:=i) dy hx hs hc k;have h3:=h1 (i+k);have h4:=dy k;have h5:x.ds.getD i 0*y.ds.getD k 0<=4294967295*4294967295:=il (by omega) (by omega);have hlen:=wL y.ds (x.ds.getD i 0) i s k;have aQ:∀l,(m++[oc l])[m.length]?=some (oc l):=fun l=>zJ ..
  have tI:∀l l',(m++[oc l]).set m.length (oc l')=m++[oc l']:=by
   intro l l';rw[qK _ _ (aW _),oE,bk]
  rw[P2,fk,aa,bR,aa,aw,aj (by omega)];simp only[fP] at ih;generalize fP y.ds (x.ds.getD i 0) i k s=t at *
  rw[lR LL,aa,j7,aa,mE _ hx,aa,lR (by omega),aa,j7,aa,mE _ h4,aa,DZ (by omega),aa,lQ (by omega),aa,kP (by omega),aa,sC (aQ _) (by omega),aa,mE _ h3,aa,
   nU (by omega),aa,nU (by omega),aa,aa,N0 (by omega),aa,mF,aa,ML,kP (by omega),aa,oZ (aQ _) (by omega),tI,aa,NZ (by omega),aa,eF (by omega),aa]
  have e:t.2+(t.1.getD (i+k) 0+x.ds.getD i 0*y.ds.getD k 0)=x.ds.getD i 0*y.ds.getD k 0+t.1.getD (i+k) 0+t.2:=by omega
  rw[e] at ih;exact ih
theorem W72(x y:NV)(m:ae)(K:KT)(hx:x.ds.length<2^40)(hy:y.ds.length<2^40)(dx:Dg x.ds)(dy:Dg y.ds):∀j i:Nat,i+j=x.ds.length ->
  E7 x.av y.av (.arr m.length 0 (x.ds.length+y.ds.length) none) (.int .i64 i) (m++[oc (ia x.ds y.ds i)]) K
   = K (.exit 0) (JZ (.arr m.length 0 (x.ds.length+y.ds.length) none) (m++[oc (ia x.ds y.ds x.ds.length)])):=by
 intro j
 induction j with
 | zero=>
  intro i hi;have:i=x.ds.length:=by omega
  subst this;rw[P1,fk,aa,bR,aa,aw,ag (by omega)]
 | succ j ih=>
  intro i hi;have ih:=ih (i+1) (by omega);rw[P1,fk,aa,bR,aa,aw,aj (by omega)];have hb:=qcT x y m (Jj K) i (x.ds.length+y.ds.length) (ia x.ds y.ds i,0) (by omega) (wK ..) (by omega) (by omega) dx dy (yK dx dy i) (by simp) y.ds.length 0 (by omega)
  refine Eq.trans ?_ (hb.trans ?_)
  .rfl
  obtain ⟨h1,h2⟩:=AL (i:=i) (s:=(ia x.ds y.ds i,0)) dy (dx i) (yK dx dy i) (by simp) y.ds.length;have hl:=wL y.ds (x.ds.getD i 0) i (ia x.ds y.ds i,0) y.ds.length;simp only[wK] at hl;have aQ:∀l,(m++[oc l])[m.length]?=some (oc l):=fun l=>zJ ..
  have tI:∀l l',(m++[oc l]).set m.length (oc l')=m++[oc l']:=by
   intro l l';rw[qK _ _ (aW _),oE,bk]
  rw[qab,fk,aa,lQ (by omega),aa,mF,aa,ku h2,kP (by omega),aa,oZ (aQ _) (by omega),tI,aa,eF (by omega),aa];exact ih
theorem tn{x y:NV}(hx:NOk x)(hy:NOk y):AP ab 72 [x.av,y.av]=some (bn (x.v*y.v)).av:=by
 have lx:=hx.v_len';have ly:=hy.v_len';have hd:=yK (eU x.v) (eU y.v) (an x.v).length;have hlen:=wK (an x.v) (an y.v) (an x.v).length;have hval:=MO (an x.v) (an y.v) (an x.v).length (aW _);rw[iW (aW _),fG,fG] at hval;refine bT _ _ (gT _) (pB _) (m:=[none]) ?_;rw[T72,dW (dN x),qQ hx.fr,ar,aa,dW (dN y),qQ hy.fr,ar,aa];rw[show x.fr.v=x.v from rfl,show y.fr.v=y.v from rfl,oo,aa,oo,aa,lQ (by omega),aa,wJ (by omega) (by omega),aa];have hw:=W72 (bn x.v) (bn y.v) [] (Ji (aN ab.P f72.results.toList)) (by rw[jd];omega) (by rw[jd];omega) (by rw[jd];exact eU _) (by rw[jd];exact eU _) (an x.v).length 0 (by rw[jd];omega);simp only[jd] at hw
 refine Eq.trans ?_ (hw.trans ?_)
 .rfl
 have hp:=wO (cp:=AP ab) (g:=103) (m:=[]++[oc (ia (an x.v) (an y.v) (an x.v).length)]) (nm:=0) (ds:=ia (an x.v) (an y.v) (an x.v).length) rfl;rw[hlen] at hp;rw[Z7,show ([]:ae).length=0 from rfl,hp,xz _ hd (by simp only[hlen];omega)];simp only[NV.v] at hval ⊢;rw[hval]
 rfl
theorem qcO(x:NV)(d:Nat)(m:ae)(K:KT)(hl:x.ds.length<2^40)(dx:Dg x.ds)(hd:0<d)(gB:d<4294967296):∀j k:Nat,k+j=x.ds.length ->
  ET x.av (.int .u64 d) (.arr m.length 0 x.ds.length none) (.int .u64 (gP x.ds d k).2) (.int .i64 ((j:Int)-1)) (m++[oc (gP x.ds d k).1]) K
   = K (.exit 0) (JL (.arr m.length 0 x.ds.length none) (.int .u64 (gP x.ds d x.ds.length).2) (m++[oc (gP x.ds d x.ds.length).1])):=by
 intro j
 induction j with
 | zero=>
  intro k hk;have:k=x.ds.length:=by omega
  subst this;rw[PH];simp[o9,au]
 | succ j ih=>
  intro k hk;have ih:=ih (k+1) (by omega);have hr:=H5 (a:=x.ds) hd k;have hq:=NL (a:=x.ds) dx hd k j;have hlen:=wV x.ds d k;have hj:=dx j;have ej:x.ds.length-1-k=j:=by omega
  have mB:∀a:Nat,a<4294967296->af .other .mul (.int .u64 a) (.int .u64 4294967296)=some (.int .u64 (a*4294967296:Nat)):=fun a h=>DZ (b:=4294967296) (by omega)
  have tI:∀l l',(m++[oc l]).set m.length (oc l')=m++[oc l']:=by
   intro l l';rw[qK _ _ (aW _),oE,bk]
  rw[PH,show ((j+1:Nat):Int)-1=(j:Nat) by omega,DD,aa,jj];simp only[gP,ej] at ih;generalize gP x.ds d k=t at *;rw[mB _ (by omega),aa,lR (by omega),aa,j7,aa,mE _ hj,aa,nU (by omega),aa,zg (by omega) (by omega),aa,mF,aa,kP (by omega),aa,ku hq,oZ (zJ ..) (by omega),tI,aa,Bl (by omega) (by omega),aa,qA (by omega),aa];exact ih
theorem QK{x:NV}{d:Nat}(hx:NOk x)(hd:0<d)(gB:d<4294967296):AP ab 129 [x.av,.int .u64 d]=some (.tup [(bn (x.v/d)).av,.int .u64 (x.v%d:Nat)]):=by
 have lx:=hx.len;obtain ⟨k1,k2⟩:=Wo hx.dg hd;refine bT _ _ (wc (wg (x.v/d)) (gH _ _)) rfl (m:=[none]) ?_;rw[qb4,fk,aa,wJ (by omega) (by omega),aa,aa,qA (by omega),aa];have:=qcO x d [] (Ja (aN ab.P f129.results.toList)) lx hx.dg hd gB x.ds.length 0 (by omega);refine this.trans ?_;have hp:=wO (cp:=AP ab) (g:=103) (m:=[]++[oc (gP x.ds d x.ds.length).1]) (nm:=0) (ds:=(gP x.ds d x.ds.length).1) rfl;rw[wV] at hp;rw[H6,ll (Ba hx.dg hd _)] at k1;rw[Zi,show ([]:ae).length=0 from rfl,hp,xz _ (Ba hx.dg hd _) (by simp only[wV];omega),k2];simp only[ar,aa,NV.v];rw[qfD k1]
 rfl
theorem FK{x:NV}(hx:NOk x):AP ab 128 [x.av]=some (bn (x.v/2)).av:=by
 refine bT _ _ (gT _) (pB _) (m:=[]) ?_;have h:=QK (d:=2) (fw hx.v_len') (by omega) (by omega);rw[dZ] at h;rw[qb3,dW (dN x),qQ hx.fr,ar,aa,show x.fr.v=x.v from rfl,gO (gT _) (eK _ _)];simp only[];rw[show AV.int .u64 2=.int .u64 ((2:Nat):Int) from rfl,h]
 rfl
theorem qgg(ds:List Nat):ds.getD 0 0%2=val ds%2:=by
 cases ds with
 | nil=>rfl
 | cons d ds=>rw[rK,val];omega
theorem FJ{x:NV}(hx:NOk x):AP ab 127 [x.av]=some (.bool (decide (x.v%2=0))):=by
 have h0:=hx.dg 0;have h:=uw (i:=0) hx.fr (by omega);refine jE (m:=[]) ?_ (qU _ _) (by simp[gV]);rw[qb2,gO (dN x) (eK _ _),show AV.int .i64 0=.int .i64 ((0:Nat):Int) from rfl,h,ar,aa];simp only[NV.fr];rw[show AV.int .u64 2=.int .u64 ((2:Nat):Int) from rfl,Bl (by omega) (by omega),aa,mg,aa,qgg]
 rfl
end Go.Ab
namespace Go.Ab
open Go.Proofs.Try
def iB(b:List Nat)(d s:Nat):Nat->List Nat×Nat
 | 0=>(List.replicate s 0,0)
 | i+1=>((iB b d s i).1++[(b.getD i 0*d+(iB b d s i).2)%4294967296],(b.getD i 0*d+(iB b d s i).2)/4294967296)
theorem Il(b:List Nat)(d s:Nat):∀i,(iB b d s i).1.length=s+i
 | 0=>by simp[iB]
 | i+1=>by simp only[iB,aK,Il b d s i,aR,aX];omega
theorem NW{b:List Nat}{d:Nat}(hb:Dg b)(hd:d<4294967296)(s:Nat):∀i,(iB b d s i).2<4294967296
 | 0=>by simp[iB]
 | i+1=>by
  have:=NW hb hd s i;have h1:=hb i;have h5:b.getD i 0*d<=4294967295*4294967295:=il (by omega) (by omega);simp only[iB];omega
theorem WV(b:List Nat)(d s:Nat):∀i,Dg (iB b d s i).1
 | 0=>xP _
 | i+1=>xN (WV b d s i) (uD (jx _ (by omega)))
theorem WW(b:List Nat)(d s:Nat):∀i,val (iB b d s i).1+4294967296^(s+i)*(iB b d s i).2=4294967296^s*(vs b i*d)
 | 0=>by simp[iB,It,rC]
 | i+1=>by
  have ih:=WW b d s i;simp only[iB,xd,Il,val,ju];have h1:=AS (4294967296^(s+i)) 4294967296 (b.getD i 0*d+(iB b d s i).2);generalize hw:b.getD i 0*d+(iB b d s i).2=w at *;rw[<- hw,fL,hw] at h1
  have e:4294967296^s*((vs b i+4294967296^i*b.getD i 0)*d)=4294967296^s*(vs b i*d)+4294967296^(s+i)*(b.getD i 0*d):=by
   rw[fI,fL,qL,gQ,gQ]
  rw[e,<- ih,<- my,jS,mA,jo];omega
def tV(m:ae)(i:Nat)(ds:List Nat):NV:=if i=0 then ⟨false,.full,ds⟩ else ⟨false,.tok m.length 116,ds⟩
def tM(m:ae)(i:Nat)(ds:List Nat):ae:=if i=0 then m else pF m ds.length
theorem Rv{m:ae}{i:Nat}{ds:List Nat}{v:Nat}(h:(ds.length+1)*4<=iU):eG none false 116 none 4 (tM m i ds) (tV m i ds).av (.lst none false .full [.int .u32 v])=some ((tV m (i+1) (ds++[v])).av,tM m (i+1) (ds++[v])):=by
 by_cases hi:i=0
 .subst hi;simp only[tV,tM,eC,NV.av,eG,gu,aR,aX,aL,h,ak,pF,Sh.size,ko,j6,true_or,zO,qn,xw,dg,aK,Nat.add_eq_zero_iff,Nat.one_ne_zero,and_false,Nat.succ_ne_zero]
 .have:=F3 (e:=116) (b:=4) (m:=m) (es:=ds.map dg) (z:=false) (o:=.full) (y:=.int .u32 v) (by rw[gu];exact h);rw[gu] at this;simp only[tV,tM,ag hi,NV.av,ag (Nat.succ_ne_zero i)];rw[this];simp[dg]
theorem qcP(x:NV)(d s:Nat)(m:ae)(K:KT)(hl:x.ds.length<2^40)(dx:Dg x.ds)(hd:d<4294967296)(hs:s<2^40):∀j i:Nat,i+j=x.ds.length ->
  EU x.av (.int .u64 d) (tV m i (iB x.ds d s i).1).av (.int .u64 (iB x.ds d s i).2) (.int .i64 i) (tM m i (iB x.ds d s i).1) K
   = K (.exit 0) (JM (tV m x.ds.length (iB x.ds d s x.ds.length).1).av (.int .u64 (iB x.ds d s x.ds.length).2) (tM m x.ds.length (iB x.ds d s x.ds.length).1)):=by
 intro j
 induction j with
 | zero=>
  intro i hi;have:i=x.ds.length:=by omega
  subst this;rw[PI,fk,aa,bR,aa,aw,ag (by omega)]
 | succ j ih=>
  intro i hi;have ih:=ih (i+1) (by omega);have h1:=dx i;have h2:=NW dx hd s i;have hlen:=Il x.ds d s i;have h5:x.ds.getD i 0*d<=4294967295*4294967295:=il (by omega) (by omega);simp only[iB] at ih
  rw[PI,fk,aa,bR,aa,aw,aj (by omega),lR (by omega),aa,j7,aa,mE _ h1,aa,DZ (by omega),aa,nU (by omega),aa,N0 (by omega),aa,mF,aa,ML,Ci,aa,
   Rv (by rw[hlen];simp only[iU];omega),aa,NZ (by omega),aa,eF (by omega),aa]
  exact ih
theorem QL{x:NV}{d s:Nat}(hx:NOk x)(hd:d<4294967296)(hs:s<2^40):AP ab 131 [x.av,.int .u64 d,.int .i64 s]=some (bn (4294967296^s*(x.v*d))).av:=by
 have lx:=hx.len;have hlen:=Il x.ds d s x.ds.length;have hc:=NW hx.dg hd s x.ds.length;have hv:=WW x.ds d s x.ds.length;rw[iW (aW _)] at hv;have hdg:Dg ((iB x.ds d s x.ds.length).1++[(iB x.ds d s x.ds.length).2]):=xN (WV _ _ _ _) (uD hc)
 have kL:yI none none (.int .u32 0) 4 [] (.int .i64 s) (.int .i64 s)=some ((NV.mk false .full (List.replicate s 0)).av,[]):=by
  have h1:(s:Int)*4<=281474976710656:=by omega
  have h2:(s:Int)<=9223372036854775807:=by omega
  have h3:(0:Int)<=s:=by omega
  simp only[yI,NV.av,List.map_replicate,dg];rw[aj ⟨⟨h3,trivial,h1,h2⟩,rfl,rfl⟩]
  rfl
 refine bT _ _ (gT _) (pB _) (m:=tM [] (x.ds.length+1) ((iB x.ds d s x.ds.length).1++[(iB x.ds d s x.ds.length).2])) ?_;rw[qb6,kL,aa];refine (qcP x d s [] _ lx hx.dg hd hs x.ds.length 0 (by omega)).trans ?_
 have hfz:Fz (tV [] (x.ds.length+1) ((iB x.ds d s x.ds.length).1++[(iB x.ds d s x.ds.length).2])).av (NV.mk false .no ((iB x.ds d s x.ds.length).1++[(iB x.ds d s x.ds.length).2])).av:=by
  have:=dN (tV [] (x.ds.length+1) ((iB x.ds d s x.ds.length).1++[(iB x.ds d s x.ds.length).2]));unfold tV at this ⊢;rw[ag (by omega)] at this ⊢;exact this
 rw[Zl,mF,aa,Ci,aa,ku hc,Rv (by rw[hlen];simp only[iU];omega),aa,dW hfz,xz _ hdg (by simp only[aK,hlen,aR,aX];omega)];simp only[ar,aa,NV.v] at hv ⊢;rw[xd,hlen,val,val,mA,jo,hv]
theorem qiN{a b p q top lead:Nat}(hq:q*b<=a)(ha:a<(top+1)*p)(hb:lead*p<=b)(hl:0<lead):q<=top/lead:=by
 rw[Fl hl];have h1:q*lead*p<=q*b:=by rw[gQ];exact kU _ hb
 have h2:q*lead*p<(top+1)*p:=by omega
 have:=Fm h2;omega
theorem qiM{a b p top lead:Nat}(ha:top*p<=a)(hb:b<=(lead+1)*p)(nN:0<b):top/(lead+1)<=a/b:=by
 rw[Fl nN];have h1:top/(lead+1)*b<=top/(lead+1)*((lead+1)*p):=kU _ hb;rw[<- gQ] at h1;have h2:top/(lead+1)*(lead+1)*p<=top*p:=fW _ (Nat.div_mul_le_self _ _);omega
theorem qj8{a:List Nat}{k:Nat}(ha:Dg a)(h:val a<4294967296^(k+2)):(a.getD (k+1) 0*4294967296+a.getD k 0)*4294967296^k<=val a/\val a<(a.getD (k+1) 0*4294967296+a.getD k 0+1)*4294967296^k:=by
 have h1:val a=vs a (k+2):=by
  have hz:∀j,vs a (k+2+j)=vs a (k+2):=by
   intro j
   induction j with
   | zero=>rfl
   | succ j ih=>
    rw[<- my,ju,ih];have hle:=Xo a (k+2+j+1);rw[ju] at hle;have hp:4294967296^(k+2)<=4294967296^(k+2+j):=qp (by omega) (by omega)
    have h0:a.getD (k+2+j) 0=0:=by
     apply jv;intro hn;have:4294967296^(k+2+j)*1<=4294967296^(k+2+j)*a.getD (k+2+j) 0:=kU _ (by omega);omega
    rw[h0,mA,jo]
  rw[<- iW (a:=a) (i:=k+2+a.length) (by omega)];exact hz a.length
 have h2:=xf ha k;rw[h1,ju,ju,jS,fI _ 1,fI,gQ,en (4294967296^k) (a.getD k 0),en (4294967296^k) 4294967296,en (4294967296*4294967296^k)];omega
theorem qcn{x y:NV}{i n:Nat}(hx:NOk x)(hy:NOk y)(hi:i<2^40)(hn:y.ds.length=n)(mP:1<=n)(CW:y.ds.getD (n-1) 0≠0)(hq:x.v/(y.v*4294967296^i)<4294967296) :
  ∃lo hi:Nat,AP ab 130 [x.av,y.av,.int .i64 i]=some (.tup [.int .u64 lo,.int .u64 hi])/\lo<=x.v/(y.v*4294967296^i)/\x.v/(y.v*4294967296^i)<=hi/\hi<4294967296:=by
 have lx:=hx.len;have ly:=hy.len;obtain ⟨k,rfl⟩:∃k,n=k+1:=⟨n-1,by omega⟩;rw[ti] at CW;have Df:y.v=vs y.ds k+4294967296^k*y.ds.getD k 0:=by rw[NV.v,<- iW (Nat.le_of_eq hn),ju]
 have eV:=xf hy.dg k;have tF:=hy.dg k;have C1:0<4294967296^i:=Nat.pow_pos (by omega);have AE:0<4294967296^k:=Nat.pow_pos (by omega)
 have hyp:0<y.v:=by
  rw[Df];have:4294967296^k*1<=4294967296^k*y.ds.getD k 0:=kU _ (by omega);omega
 have nN:0<y.v*4294967296^i:=Nat.mul_pos hyp C1
 have gI:y.ds.getD k 0*4294967296^(k+i)<=y.v*4294967296^i:=by
  rw[qL,<- gQ];exact fW _ (by rw[Df,en];omega)
 have ng:y.v*4294967296^i<=(y.ds.getD k 0+1)*4294967296^(k+i):=by
  rw[qL,<- gQ];refine fW _ ?_;rw[Df,fI,nH,en];omega
 have qhk:val x.ds<4294967296^(k+i+2):=by
  rw[vF nN] at hq;have h1:(y.ds.getD k 0+1)*4294967296^(k+i)<=4294967296*4294967296^(k+i):=fW _ tF;have h2:4294967296*(y.v*4294967296^i)<=4294967296*(4294967296*4294967296^(k+i)):=kU _ (b7 ng h1);rw[jS,jS]
  have h3:4294967296^(k+i)*4294967296*4294967296=4294967296*(4294967296*4294967296^(k+i)):=by
   rw[en,en (4294967296^(k+i))]
  rw[h3];exact rQ hq h2
 obtain ⟨t1,t2⟩:=qj8 hx.dg qhk;have d1:=hx.dg (k+i+1);have d2:=hx.dg (k+i);have qle:x.v/(y.v*4294967296^i)<=(x.ds.getD (k+i+1) 0*4294967296+x.ds.getD (k+i) 0)/y.ds.getD k 0:=qiN (Nat.div_mul_le_self _ _) t2 gI (by omega);have qge:(x.ds.getD (k+i+1) 0*4294967296+x.ds.getD (k+i) 0)/(y.ds.getD k 0+1)<=x.v/(y.v*4294967296^i):=qiM t1 ng nN;have hfz:=wc (gH .u64 0) (gH .u64 0)
 have key:∃lo hi:Nat,AC ab 130 [x.av,y.av,.int .i64 i] []=some (.tup [.int .u64 lo,.int .u64 hi],[])/\lo<=x.v/(y.v*4294967296^i)/\x.v/(y.v*4294967296^i)<=hi/\hi<4294967296:=by
  have e1:i+(k+1)=k+i+1:=by omega
  have uB:∀a:Nat,af .other .lss (.int .u64 a) (.int .u64 4294967295)=some (.bool (decide (a<4294967295))):=fun a=>bR (b:=4294967295);have u0:∀a:Nat,af .other .gtr (.int .u64 0) (.int .u64 a)=some (.bool (decide (0>a))):=fun a=>DE (a:=0);have u0B:af .other .gtr (.int .u64 0) (.int .u64 4294967295)=some (.bool false):=rfl;have uaB:∀a:Nat,af .other .gtr (.int .u64 a) (.int .u64 4294967295)=some (.bool (decide (a>4294967295))):=fun a=>DE (b:=4294967295);have ua1:∀a:Nat,a<4294967296->af .other .add (.int .u64 a) (.int .u64 1)=some (.int .u64 (a+1:Nat)):=fun a h=>nU (b:=1) (by omega);rw[qb5,fk,hn,aa,lQ (by omega),aa,gO (dN x) (eK _ _),uw hx.fr (by omega),ar,aa];rw[show x.fr.ds=x.ds from rfl,e1,D1 (hx.dg _),aa,aa,tP (by omega) (by omega),aa,ti,gO (dN x) (eK _ _),uw hx.fr (by omega),ar,aa];rw[show x.fr.ds=x.ds from rfl,D0 (hx.dg _) (hx.dg _),aa,tP (by omega) (by omega),aa,ti,lR (by omega),aa,j7,aa,mE _ tF,aa,zg (by omega) (by omega),aa,uB,aa,aw];have hdl:=BX (x.ds.getD (k+i+1) 0*4294967296+x.ds.getD (k+i) 0) (y.ds.getD k 0+1);have uq:af .other .quo (.int .u64 (x.ds.getD (k+i+1) 0*4294967296+x.ds.getD (k+i) 0:Nat)) (.int .u64 (y.ds.getD k 0+1:Nat))=some (.int .u64 ((x.ds.getD (k+i+1) 0*4294967296+x.ds.getD (k+i) 0)/(y.ds.getD k 0+1):Nat)):=zg (by omega) (by omega)
  by_cases c1:(x.ds.getD (k+i+1) 0*4294967296+x.ds.getD (k+i) 0)/y.ds.getD k 0<4294967295
  .rw[aj c1,aa,ua1 _ tF,aa,Hu,aa,aw]
   by_cases c2:y.ds.getD k 0+1<4294967296
   .rw[aj c2,aa,uq,aa,Hu,aa,aw]
    by_cases c3:(x.ds.getD (k+i+1) 0*4294967296+x.ds.getD (k+i) 0)/(y.ds.getD k 0+1)<4294967296
    .rw[aj c3,aa,uq,aa,DE,aa,aw,ag (by omega)];exact ⟨_,_,rfl,qge,qle,by omega⟩
    .rw[ag c3,u0,aa,aw,ag (Nat.not_lt_zero _)];exact ⟨0,_,rfl,jH _,qle,by omega⟩
   .rw[ag c2,u0,aa,aw,ag (Nat.not_lt_zero _)];exact ⟨0,_,rfl,jH _,qle,by omega⟩
  .rw[ag c1,ua1 _ tF,aa,Hu,aa,aw]
   by_cases c2:y.ds.getD k 0+1<4294967296
   .rw[aj c2,aa,uq,aa,Hu,aa,aw]
    by_cases c3:(x.ds.getD (k+i+1) 0*4294967296+x.ds.getD (k+i) 0)/(y.ds.getD k 0+1)<4294967296
    .rw[aj c3,aa,uq,aa,uaB,aa,aw,ag (by omega)];exact ⟨_,4294967295,rfl,qge,by omega,by omega⟩
    .rw[ag c3,u0B,aa,fF];exact ⟨0,4294967295,rfl,jH _,by omega,by omega⟩
   .rw[ag c2,u0B,aa,fF];exact ⟨0,4294967295,rfl,jH _,by omega,by omega⟩
 obtain ⟨lo,hi',k1,k2⟩:=key;exact ⟨lo,hi',bT _ _ (wc (gH _ _) (gH _ _)) rfl k1,k2⟩
end Go.Ab
namespace Go.Ab
open Go.Proofs.Try
theorem Sa{b s d:Nat}(hd:d<4294967296):(an (4294967296^s*(b*d))).length<=s+((an b).length+1):=by
 refine tv ?_;rw[qL];refine Nat.mul_lt_mul_of_pos_left ?_ (Nat.pow_pos (by omega));have h:=mY (eU b);rw[fG] at h;rw[jS];exact Nat.mul_lt_mul'' h hd
theorem qcC{a b i q:Nat}(K:KT)(x9:AV)(m:ae)(la:(an a).length<2^40)(lb:(an b).length<2^40)(hi:i<2^39)(lb2:(an b).length+i+1<2^40)(hq:q=a/(b*4294967296^i))(hb:0<b):∀(r lo hi':Nat),hi'-lo<=r->lo<=q->q<=hi'->hi'<4294967296 ->
  BI (bn a).av (bn b).av x9 (.int .i64 i) (.int .u64 lo) (.int .u64 hi') m K=K (.exit 2) (Jz (bn a).av (bn b).av x9 (.int .i64 i) (.int .u64 q) m):=by
 have C1:0<4294967296^i:=Nat.pow_pos (by omega);have hbp:0<b*4294967296^i:=Nat.mul_pos hb C1;intro r
 induction r with
 | zero=>
  intro lo hi' hr h1 h2 h3;have:lo=q:=by omega
  subst this;rw[Pn,bR,aa,aw,ag (by omega)]
 | succ r ih=>
  intro lo hi' hr h1 h2 h3;rw[Pn,bR,aa,aw]
  by_cases aG:lo<hi'
  .have u1:∀a:Nat,a<4294967296->af .other .add (.int .u64 a) (.int .u64 1)=some (.int .u64 (a+1:Nat)):=fun a h=>nU (b:=1) (by omega);have u2:∀a:Nat,a<4294967298->af .other .quo (.int .u64 a) (.int .u64 2)=some (.int .u64 (a/2:Nat)):=fun a h=>zg (b:=2) (by omega) (by omega);rw[aj aG,zh (by omega) (by omega),aa,u1 _ (by omega),aa,u2 _ (by omega),aa,nU (by omega),aa];generalize qkz:lo+(hi'-lo+1)/2=mid;have kK:lo<mid:=by omega
   have eL:mid<=hi':=by omega
   have kN:=Sa (b:=b) (s:=i) (d:=mid) (by omega);rw[yV (gT b) (eK _ _) (eK _ _),QL (fw lb) (by omega) (by omega),ar,aa,dZ,gO (gT _) (gT a),xD (fw (by omega)) (fw la),ar,aa,F5,aa,aw,dZ,dZ]
   have S7:gS (4294967296^i*(b*mid)) a<=0↔mid<=q:=by
    rw[hq,Fl hbp];have e:mid*(b*4294967296^i)=4294967296^i*(b*mid):=by rw[en,en b,gQ]
    rw[e];unfold gS
    constructor
    .intro h;apply vG;intro hc;rw[ag (by omega),aj hc] at h;omega
    .intro h
     split
     .omega
     .rw[ag (by omega)];omega
   by_cases hc:mid<=q
   .rw[aj (S7.2 hc)];exact ih mid hi' (by omega) hc h2 h3
   .rw[ag (fun h=>hc (S7.1 h)),Ip (by omega) (by omega),aa];exact ih lo (mid-1) (by omega) h1 (by omega) (by omega)
  .have:lo=q:=by omega
   subst this;rw[ag aG]
structure DInv (a0 b la j:Nat) (a:Nat) (q:List Nat):Prop where
 dq:Dg q
 lq:q.length=la
 lt:a<b*4294967296^j
 eq:wn q j (la-j)*(b*4294967296^j)+a=a0
theorem DInv.step{a0 b la j a:Nat}{q:List Nat}(hb:0<b)(hj:j<la)(h:DInv a0 b la (j+1) a q) :
  a/(b*4294967296^j)<4294967296/\DInv a0 b la j (a%(b*4294967296^j)) (q.set j (a/(b*4294967296^j))):=by
 have hp:0<b*4294967296^j:=Nat.mul_pos hb (Nat.pow_pos (by omega));have e0:b*4294967296^(j+1)=4294967296*(b*4294967296^j):=by rw[jS,<- gQ,en]
 have aG:=h.lt;have heq:=h.eq;rw[e0] at aG heq;have hq:a/(b*4294967296^j)<4294967296:=by rw[vF hp];exact aG
 refine ⟨hq,h.dq.set _ _ hq,by rw[eB,h.lq],jx _ hp,?_⟩;obtain ⟨r,hr⟩:∃r,la-j=r+1:=⟨la-j-1,by omega⟩;rw[hr,Eb,qV (by rw[h.lq];exact hj),ub (by omega),<- heq,show la-(j+1)=r by omega];have h2:=rO a (b*4294967296^j);generalize b*4294967296^j=p at *;rw[fI,en (a/p),en 4294967296,gQ];omega
theorem qcB{a0 b la:Nat}(K:KT)(hb:0<b)(lla:la<2^39)(l0:(an a0).length<2^39)(lb:(an b).length<2^39):∀(j a:Nat) (q:List Nat),j<=la->a<=a0->DInv a0 b la j a q ->
  ∃a' q',DInv a0 b la 0 a' q'/\EL (bn a).av (bn b).av (.arr 0 0 la none) (.int .i64 ((j:Int)-1)) [oc q] K=K (.exit 0) (Jy (bn a').av (.arr 0 0 la none) [oc q']):=by
 intro j
 induction j with
 | zero=>
  intro a q _ _ hI;refine ⟨a,q,hI,?_⟩;rw[Pm];simp[o9,au]
 | succ j ih=>
  intro a q hj ha hI;obtain ⟨hq,CH⟩:=hI.step hb (by omega);have la':(an a).length<2^39:=jG (kD ha) l0;have yn:=hI.lq;obtain ⟨a',q',i1,i2⟩:=ih _ _ (by omega) (b7 (Nat.mod_le _ _) ha) CH;refine ⟨a',q',i1,?_⟩;have lL:b≠0:=by omega
  have uP:(an b).length≠0:=fun e=>lL (mK.1 e);obtain ⟨lo,hi',g1,g2,g3,g4⟩:=qcn (i:=j) (n:=(an b).length) (fw (n:=a) (by omega)) (fw (n:=b) (by omega)) (by omega) (by rw[jd]) (by omega) (by rw[jd];exact Cr lL) (by rw[dZ,dZ];exact hq);rw[dZ,dZ] at g2 g3;rw[Pm,show ((j+1:Nat):Int)-1=(j:Nat) by omega,DD,aa,jj,yV (gT a) (gT b) (eK _ _),g1,ar,aa];simp only[bg]
  rw[show ([AV.int .u64 lo,AV.int .u64 hi']:List AV)[0]?=some (.int .u64 lo) from rfl,show ([AV.int .u64 lo,AV.int .u64 hi']:List AV)[1]?=some (.int .u64 hi') from rfl,aa,aa,
   qcC (IY K) _ _ (by omega) (by omega) (by omega) (by omega) rfl hb (hi'-lo) lo hi' (aW _) g2 g3 g4]
  have kN:=Sa (b:=b) (s:=j) (d:=a/(b*4294967296^j)) hq;have he:4294967296^j*(b*(a/(b*4294967296^j)))=b*4294967296^j*(a/(b*4294967296^j)):=by rw[<- gQ,en b]
  have ft:a-4294967296^j*(b*(a/(b*4294967296^j)))=a%(b*4294967296^j):=by
   rw[he];have:=rO a (b*4294967296^j);omega
  have hle:¬ a<4294967296^j*(b*(a/(b*4294967296^j))):=by
   rw[he];have:=rO a (b*4294967296^j);omega
  rw[Yk,mF,aa,ku hq,kP (by omega),aa,oZ (m:=[oc q]) (n:=0) (ds:=q) rfl (by omega),aa,yV (gT b) (eK _ _) (eK _ _),QL (fw (n:=b) (by omega)) hq (by omega),ar,aa,dZ,
   gO (gT a) (gT (4294967296^j*(b*(a/(b*4294967296^j))))),B4 (fw (n:=a) (by omega)) (fw (n:=4294967296^j*(b*(a/(b*4294967296^j)))) (by omega)) (gZ a) (gZ (4294967296^j*(b*(a/(b*4294967296^j))))),ar,aa]
  unfold Bf;rw[dZ,dZ,ag hle,ft];simp only[bg];rw[show ([(bn (a%(b*4294967296^j))).av,AV.int .i64 0]:List AV)[0]?=some (bn (a%(b*4294967296^j))).av from rfl,show ([(bn (a%(b*4294967296^j))).av,AV.int .i64 0]:List AV)[1]?=some (.int .i64 0) from rfl,aa,aa,qA (by omega),aa];exact i2
def Gn(x y:NV):AV:=if y.v=0 then .tup [AM,AM,.int .i64 31] else .tup [(bn (x.v/y.v)).av,(bn (x.v%y.v)).av,.int .i64 0]
theorem qiQ:(bn 0).av=.lst none true .full []:=by rw[bn,jK];rfl
theorem FI{x y:NV}(hx:NOk x)(hy:NOk y)(lx:(an x.v).length<2^39)(ly:(an y.v).length<2^39):AP ab 102 [x.av,y.av]=some (Gn x y):=by
 have e1:=qQ hx.fr;have e2:=qQ hy.fr;rw[show x.fr.v=x.v from rfl] at e1;rw[show y.fr.v=y.v from rfl] at e2;have hX:=fw (n:=x.v) (by omega);have hY:=fw (n:=y.v) (by omega);unfold Gn
 by_cases h0:y.v=0
 .rw[aj h0];refine bT _ _ (we Al Al (gH _ _)) rfl (m:=[]) ?_;rw[FD,dW (dN x),e1,ar,aa,dW (dN y),e2,ar,aa,oo,aa,mg,aa,aw,aj (mK.2 h0)]
 .rw[ag h0];have jC:¬ (an y.v).length=0:=fun e=>h0 (mK.1 e)
  by_cases h2:y.v<4294967296
  .have mP:(an y.v).length=1:=Gk.2 ⟨h0,h2⟩
   have LD:(an y.v).getD 0 0=y.v:=by
    rw[xQ h0,rK,ku h2]
   have aG:x.v%y.v<y.v:=jx _ (by omega);refine bT _ _ (we (wg (x.v/y.v)) (wg (x.v%y.v)) (gH _ _)) rfl (m:=[]) ?_;have e4:=QK (d:=y.v) hX (by omega) h2;rw[dZ] at e4
   rw[FD,dW (dN x),e1,ar,aa,dW (dN y),e2,ar,aa,oo,aa,mg,aa,aw,ag jC,aa,ve,aa,aw,aj mP,
    Hj (by rw[jd,mP];omega),aa,j7,aa,jd,LD,mE _ h2,aa,gO (gT _) (eK _ _),e4,ar,aa]
   simp only[bg]
   rw[show ([(bn (x.v/y.v)).av,AV.int .u64 (x.v%y.v:Nat)]:List AV)[0]?=some (bn (x.v/y.v)).av from rfl,show ([(bn (x.v/y.v)).av,AV.int .u64 (x.v%y.v:Nat)]:List AV)[1]?=some (AV.int .u64 (x.v%y.v:Nat)) from rfl,aa,aa,
    dW (eK _ _),FO (by omega),ar,aa]
  .have mP:¬ (an y.v).length=1:=fun e=>h2 (Gk.1 e).2
   by_cases h3:(an x.v).length<(an y.v).length
   .have aG:x.v<y.v:=by
     apply Nat.lt_of_not_le;intro h;have:=kD h;omega
    rw[zQ aG,ku aG];refine bT _ _ (we (wg 0) (wg x.v) (gH _ _)) rfl (m:=[]) ?_
    rw[FD,dW (dN x),e1,ar,aa,dW (dN y),e2,ar,aa,oo,aa,mg,aa,aw,ag jC,aa,ve,aa,aw,ag mP,
     oo,aa,aa,bR,aa,aw,aj h3,qiQ]
   .have hb:0<y.v:=na h0
    have hI:DInv x.v y.v (an x.v).length ((an x.v).length-(an y.v).length+1) x.v (List.replicate (an x.v).length 0):=by
     refine ⟨xP _,rM,?_,?_⟩
     .have h4:=mY (eU x.v);rw[fG] at h4;have h5:=Gl (n:=y.v) (k:=(an y.v).length-1) (by omega);refine rQ h4 ?_;refine b7 ?_ (fW _ h5);rw[<- qL];exact qp (by omega) (by omega)
     .rw[Oc _ (fun k _=>GG _ _),qM,aL]
    obtain ⟨a',q',i1,i2⟩:=qcB (IX (aN ab.P f102.results.toList)) hb lx lx ly _ _ _ (by omega) (aW _) hI;have heq:=i1.eq;have aG:=i1.lt;have yn:=i1.lq;rw[Nat.pow_zero,qo] at heq aG;rw[Nat.sub_zero,Ec,iW (by omega)] at heq;obtain ⟨k1,k2⟩:=vV heq.symm aG;refine bT _ _ (we (wg (x.v/y.v)) (wg (x.v%y.v)) (gH _ _)) rfl (m:=[none]) ?_;have hp:=wO (cp:=AP ab) (g:=103) (m:=[oc q']) (nm:=0) (ds:=q') rfl;rw[yn] at hp
    rw[FD,dW (dN x),e1,ar,aa,dW (dN y),e2,ar,aa,oo,aa,mg,aa,aw,ag jC,aa,ve,aa,aw,ag mP,
     oo,aa,aa,bR,aa,aw,ag h3,aa,wJ (by omega) (by omega),aa,aa,aa,yE (by omega) (by omega),aa]
    rw[show (((an x.v).length-(an y.v).length+1:Nat):Int)-1=(((an x.v).length-(an y.v).length:Nat):Int) by omega] at i2
    refine Eq.trans ?_ (i2.trans ?_)
    .rfl
    rw[Yg,hp,xz _ i1.dq (by simp only[yn];omega),ar,aa];simp only[NV.v] at k1 k2 ⊢;rw[k1,k2]
    rfl
end Go.Ab
namespace Go.Ab
open Go.Proofs.Try
theorem qkd{tk:TK}{a:Nat}(h:a<4294967296):af tk .quo (.int .u32 a) (.int .u32 2)=some (.int .u32 (a/2:Nat)):=by
 have e:af tk .quo (.int .u32 a) (.int .u32 2)=some (.int .u32 (IntKind.wrap .u32 ((a:Int).tdiv 2))):=by cases tk<;>rfl
 have e2:(a:Int).tdiv 2=((a/2:Nat):Int):=rfl;rw[e,e2,zn (by omega) (by omega)]
theorem qcA(K:KT)(m:ae):∀(r x n:Nat),x<2^r->r<=32->n+r<2^60->∃k,k<=n+r/\(0<n\/0<x->0<k)/\(n=0->x=0->k=0)/\EK (.int .i64 n) (.int .u32 x) m K=K (.exit 0) (Jw (.int .i64 k) m):=by
 intro r
 induction r with
 | zero=>
  intro x n hx hr hn;have:x=0:=by simpa using hx
  subst this;refine ⟨n,by omega,by omega,fun h _=>h,?_⟩;rw[Pl,sF,aa,aw,ag (by omega)]
 | succ r ih=>
  intro x n hx hr hn;rw[Pl,sF,aa,aw]
  by_cases h:x>0
  .have hp:2^(r+1)<=2^32:=qp (by omega) hr;rw[aj h,eF (by omega),aa,qkd (by omega),aa];rw[jS] at hx;obtain ⟨k,k1,k2,k3,k4⟩:=ih (x/2) (n+1) (by omega) (by omega) (by omega);exact ⟨k,by omega,fun _=>k2 (.inl (by omega)),by omega,k4⟩
  .rw[ag h];exact ⟨n,by omega,by omega,fun h _=>h,rfl⟩
theorem QE{x:NV}(hx:NOk x):∃k:Nat,AP ab 101 [x.av]=some (.int .i64 k)/\(k=0↔x.v=0):=by
 have lx:=hx.v_len';have e1:=qQ hx.fr;rw[show x.fr.v=x.v from rfl] at e1
 by_cases h0:x.v=0
 .refine ⟨0,jE (m:=[]) (v:=.int .i64 (0:Nat)) ?_ (eK _ _ _) (by simp[gV]),by simp[h0]⟩;rw[Qk,dW (dN x),e1,ar,aa,oo,aa,mg,aa,aw,aj (mK.2 h0)]
  rfl
 .have jC:¬ (an x.v).length=0:=fun e=>h0 (mK.1 e);have wx:=Cr h0;have hd:=eU x.v ((an x.v).length-1);obtain ⟨k,k1,k2,k3,k4⟩:=qcA (IW (aN ab.P f101.results.toList)) [] 32 ((an x.v).getD ((an x.v).length-1) 0) (32*((an x.v).length-1)) (by omega) (by omega) (by omega)
  have m32:∀a:Nat,a<2^41->af .other .mul (.int .i64 32) (.int .i64 a)=some (.int .i64 (32*a:Nat)):=by
   intro a ha;rw[Ce,km (by omega) (by omega)];rfl
  have GW:=k2 (.inr (na wx));refine ⟨k,jE (m:=[]) (v:=.int .i64 (k:Nat)) ?_ (eK _ _ _) (by simp[gV]),by omega⟩;rw[Qk,dW (dN x),e1,ar,aa,oo,aa,mg,aa,aw,ag jC,aa,tP (by omega) (by omega),aa,m32 _ (by omega),aa,aa,tP (by omega) (by omega),aa,lR (by rw[jd];omega),aa,j7,aa,jd];refine k4.trans ?_;rw[Yd]
theorem KW{a:Nat}(h:a%2=0):2*(a/2)=a:=by omega
theorem SF{a b:Nat}(ha:a%2=0)(hb:b%2=1):Nat.gcd (a/2) b=Nat.gcd a b:=by
 have hc:Nat.Coprime 2 b:=by
  rw[Nat.coprime_iff_gcd_eq_one,Nat.gcd_rec,hb]
  rfl
 have:=Nat.Coprime.gcd_mul_left_cancel (a/2) hc;rw[KW ha] at this;exact this.symm
theorem GK{a:Nat}(h:(an a).length<2^39):(an (a/2)).length<2^39:=jG (kD (BX _ _)) h
theorem qc0(K:KT)(m:ae):∀(n x y:Nat),y=n->x<18446744073709551616->y<18446744073709551616->Fh (.int .u64 x) (.int .u64 y) m K=K (.exit 0) (Kb (.int .u64 (Nat.gcd x y:Nat)) m):=by
 intro n
 induction n using Nat.strongRecOn with
 | ind n ih=>
  intro x y hn hx hy;rw[qbi,UW,aa,aw]
  by_cases h:y=0
  .rw[ag (fun hh=>hh h),h,Nat.gcd_zero_right]
  .have aG:x%y<y:=jx _ (na h);rw[aj h,Bl h hx,aa,ih (x%y) (by omega) y (x%y) rfl hy (by omega),uo y,<- Nat.gcd_rec,uo]
theorem qcW(K:KT)(m:ae):∀(n a b t:Nat),a=n->0<a->0<b->0<t->(an (a*t)).length<2^39->(an a).length<2^39->(an b).length<2^39->(an t).length<2^39 ->
  ∃a' b' t',0<a'/\0<b'/\0<t'/\a'<=a/\b'<=b/\(a'%2=1\/b'%2=1)/\Nat.gcd a' b'*t'=Nat.gcd a b*t/\(an t').length<2^39/\zH (bn a).av (bn b).av (bn t).av m K=K (.exit 2) (Fx (bn a').av (bn b').av (bn t').av m):=by
 intro n
 induction n using Nat.strongRecOn with
 | ind n ih=>
  intro a b t hn ha hb ht gX la lb lt;rw[qbe,dW (gT a),FJ (fw (by omega)),dZ,ar,aa,aw]
  by_cases h1:a%2=0
  .rw[aj h1,dW (gT b),FJ (fw (by omega)),dZ,ar,aa,aw]
   by_cases h2:b%2=0
   .have ea:=KW h1;have eb:=KW h2
    have e:a/2*(t+t)=a*t:=by
     rw[<- Nat.mul_two,<- gQ,Nat.mul_right_comm,en (a/2) 2,ea]
    have ltt:(an (t+t)).length<2^39:=by
     refine jG (kD (b:=a*t) ?_) gX;rw[<- e];exact Nat.le_mul_of_pos_left _ (by omega)
    obtain ⟨a',b',t',k1,k2,k3,k4,k5,k6,k7,k8,k9⟩:=ih (a/2) (by omega) (a/2) (b/2) (t+t) rfl (by omega) (by omega) (by omega) (by rw[e];exact gX) (GK la) (GK lb) ltt
    refine ⟨a',b',t',k1,k2,k3,by omega,by omega,k6,?_,k8,?_⟩
    .rw[k7]
     have:Nat.gcd a b=2*Nat.gcd (a/2) (b/2):=by
      conv=>lhs;rw[<- ea,<- eb]
      exact Nat.gcd_mul_left _ _ _
     rw[this,<- Nat.mul_two,<- gQ,Nat.mul_right_comm,en _ 2]
    .rw[aj h2,dW (gT a),FK (fw (by omega)),dZ,ar,aa,dW (gT b),FK (fw (by omega)),dZ,ar,aa,gO (gT t) (gT t),QG (fw (by omega)) (fw (by omega)) (gZ _) (gZ _),dZ,ar,aa];exact k9
   .rw[ag h2];exact ⟨a,b,t,ha,hb,ht,aW _,aW _,.inr (by omega),rfl,lt,rfl⟩
  .rw[ag h1];exact ⟨a,b,t,ha,hb,ht,aW _,aW _,.inl (by omega),rfl,lt,rfl⟩
theorem qcY(K:KT)(m:ae)(xb xt:AV)(b:Nat):∀(n a:Nat),a=n->0<a->(a%2=1\/b%2=1)->(an a).length<2^39 ->
  ∃a',0<a'/\a'<=a/\a'%2=1/\Nat.gcd a' b=Nat.gcd a b/\Ff (bn a).av xb xt m K=K (.exit 6) (J9 (bn a').av xb xt m):=by
 intro n
 induction n using Nat.strongRecOn with
 | ind n ih=>
  intro a hn ha uI la;rw[qbg,dW (gT a),FJ (fw (by omega)),dZ,ar,aa,aw]
  by_cases h1:a%2=0
  .have gI:b%2=1:=by omega
   obtain ⟨a',k1,k2,k3,k4,k5⟩:=ih (a/2) (by omega) (a/2) rfl (by omega) (.inr gI) (GK la);rw[aj h1,dW (gT a),FK (fw (by omega)),dZ,ar,aa];exact ⟨a',k1,by omega,k3,by rw[k4,SF h1 gI],k5⟩
  .rw[ag h1];exact ⟨a,ha,aW _,by omega,rfl,rfl⟩
theorem qcZ(K:KT)(m:ae)(xa xt:AV)(a:Nat)(ha:a%2=1):∀(n b:Nat),b=n->0<b->(an b).length<2^39 ->
  ∃b',0<b'/\b'<=b/\b'%2=1/\Nat.gcd a b'=Nat.gcd a b/\Fg xa (bn b).av xt m K=K (.exit 8) (Ka xa (bn b').av xt m):=by
 intro n
 induction n using Nat.strongRecOn with
 | ind n ih=>
  intro b hn hb lb;rw[qbh,dW (gT b),FJ (fw (by omega)),dZ,ar,aa,aw]
  by_cases h1:b%2=0
  .obtain ⟨b',k1,k2,k3,k4,k5⟩:=ih (b/2) (by omega) (b/2) rfl (by omega) (GK lb);rw[aj h1,dW (gT b),FK (fw (by omega)),dZ,ar,aa];exact ⟨b',k1,by omega,k3,by rw[k4,uo a,SF h1 ha,uo],k5⟩
  .rw[ag h1];exact ⟨b,hb,aW _,by omega,rfl,rfl⟩
theorem qcX(K:KT)(m:ae)(xt:AV):∀(n a b:Nat),a+b=n->0<a->(a%2=1\/b%2=1)->(an a).length<2^39->(an b).length<2^39 ->
  BU (bn a).av (bn b).av xt m K=K (.exit 4) (J8 (bn (Nat.gcd a b)).av xt m):=by
 intro n
 induction n using Nat.strongRecOn with
 | ind n ih=>
  intro a b hn ha uI la lb;rw[qbf,oo,aa,sF,aa,aw]
  by_cases hb:b=0
  .rw[ag (by rw[hb,jK];simp),hb,Nat.gcd_zero_right]
  .have uP:(an b).length≠0:=fun e=>hb (mK.1 e);obtain ⟨a',k1,k2,k3,k4,k5⟩:=qcY (Jn K) m (bn b).av xt b a a rfl ha uI la;obtain ⟨b',j1,j2,j3,j4,j5⟩:=qcZ (Jo K) m (bn a').av xt a' k3 b b rfl (by omega) lb;have la':(an a').length<2^39:=jG (kD k2) la;have lb':(an b').length<2^39:=jG (kD j2) lb;rw[aj (by omega),k5,qaY,j5,qa1,gO (gT a') (gT b'),xD (fw (by omega)) (fw (by omega)),dZ,dZ,ar,aa,pa,aa,aw];have hg:Nat.gcd a' b'=Nat.gcd a b:=by rw[j4,k4]
   by_cases GS:a'>b'
   .have hc:gS a' b'>0:=by unfold gS;rw[ag (by omega),aj GS];omega
    rw[aj hc,gO (gT a') (gT b'),B4 (fw (by omega)) (fw (by omega)) (gZ _) (gZ _),Bf,dZ,dZ,ag (by omega),ar,aa];simp only[bg];rw[show ([(bn (a'-b')).av,AV.int .i64 0]:List AV)[0]?=some (bn (a'-b')).av from rfl,show ([(bn (a'-b')).av,AV.int .i64 0]:List AV)[1]?=some (.int .i64 0) from rfl,aa,aa];have lab:(an (a'-b')).length<2^39:=jG (kD (Nat.sub_le _ _)) la';rw[ih (b'+(a'-b')) (by omega) b' (a'-b') rfl j1 (.inl j3) lb' lab]
    have:Nat.gcd b' (a'-b')=Nat.gcd a b:=by
     rw[<- hg,Nat.gcd_sub_self_right (by omega),uo]
    rw[this]
   .have hc:¬ gS a' b'>0:=by unfold gS;split<;>first|omega|(rw[ag GS];omega)
    rw[ag hc,gO (gT b') (gT a'),B4 (fw (by omega)) (fw (by omega)) (gZ _) (gZ _),Bf,dZ,dZ,ag (by omega),ar,aa];simp only[bg];rw[show ([(bn (b'-a')).av,AV.int .i64 0]:List AV)[0]?=some (bn (b'-a')).av from rfl,show ([(bn (b'-a')).av,AV.int .i64 0]:List AV)[1]?=some (.int .i64 0) from rfl,aa,aa];have lab:(an (b'-a')).length<2^39:=jG (kD (Nat.sub_le _ _)) lb';rw[ih (a'+(b'-a')) (by omega) a' (b'-a') rfl k1 (.inl k3) la' lab]
    have:Nat.gcd a' (b'-a')=Nat.gcd a b:=by
     rw[<- hg,Nat.gcd_sub_self_right (by omega)]
    rw[this]
theorem Ks{x y:NV}(hx:NOk x)(hy:NOk y)(lx:(an x.v).length<2^38)(ly:(an y.v).length<2^38):AP ab 99 [x.av,y.av]=some (bn (Nat.gcd x.v y.v)).av:=by
 have e1:=qQ hx.fr;have e2:=qQ hy.fr;rw[show x.fr.v=x.v from rfl] at e1;rw[show y.fr.v=y.v from rfl] at e2;have s1:=QJ (fw (n:=x.v) (by omega));have s2:=QJ (fw (n:=y.v) (by omega));rw[dZ] at s1 s2
 have hx1:∀n,bg (sW n) 1=some (.bool (decide (n<18446744073709551616))):=by
  intro n;unfold sW;split<;>(rename_i h;simp[bg,h])
 have hx0:∀n,∃k:Nat,bg (sW n) 0=some (.int .u64 k)/\(n<18446744073709551616->k=n):=by
  intro n;unfold sW
  split
  .exact ⟨n,rfl,fun _=>rfl⟩
  .rename_i h;exact ⟨0,rfl,fun h'=>absurd h' h⟩
 obtain ⟨kx,Az,qgC⟩:=hx0 x.v;obtain ⟨ky,hky,qgD⟩:=hx0 y.v
 have big:∀{R:OM},R=((aY false (bn x.v).av).bind fun v9=>(af .other .eql v9 (.int .i64 0)).bind fun v10=>au v10 (some ((bn y.v).av,[])) (
   (aY false (bn y.v).av).bind fun v11=>(af .other .eql v11 (.int .i64 0)).bind fun aV=>au aV (some ((bn x.v).av,[])) (
   (ao (AP ab) none [] 70 [(.int .u64 1)]).bind fun iT=>zH (bn x.v).av (bn y.v).av iT.1 iT.2 (BH (aN ab.P f99.results.toList)))))->R=some ((bn (Nat.gcd x.v y.v)).av,[]):=by
  intro R hR;rw[hR,oo,aa,mg,aa,aw]
  by_cases h0:x.v=0
  .rw[aj (mK.2 h0),h0,Nat.gcd_zero_left]
  .rw[ag (fun e=>h0 (mK.1 e)),oo,aa,mg,aa,aw]
   by_cases h1:y.v=0
   .rw[aj (mK.2 h1),h1,Nat.gcd_zero_right]
   .have h70:=FO (n:=1) (by omega);have l1:(an 1).length<2^39:=jG (tv (k:=1) (by omega)) (by omega);obtain ⟨a',b',t',k1,k2,k3,k4,k5,k6,k7,k8,k9⟩:=qcW (BH (aN ab.P f99.results.toList)) [] x.v x.v y.v 1 rfl (by omega) (by omega) (by omega) (by rw[qo];omega) (by omega) (by omega) l1;have la':(an a').length<2^39:=jG (kD k4) (by omega);have lb':(an b').length<2^39:=jG (kD k5) (by omega);have lg:(an (Nat.gcd a' b')).length<2^39:=jG (kD (Nat.gcd_le_left _ k1)) la';rw[ag (fun e=>h1 (mK.1 e)),dW (eK _ _),show AV.int .u64 1=.int .u64 ((1:Nat):Int) from rfl,h70,ar,aa,k9,qaS,qcX _ _ _ (a'+b') a' b' rfl k1 k6 la' lb',qaV,gO (gT _) (gT _),tn (fw (by omega)) (fw (by omega)),dZ,dZ,k7,qo]
    rfl
 refine bT _ _ (gT _) (pB _) (m:=[]) ?_;rw[T99,dW (dN x),e1,ar,aa,dW (dN y),e2,ar,aa,dW (gT _),s1,ar,aa,Az,aa,hx1,aa,dW (gT _),s2,ar,aa,hky,aa,hx1,aa,aw]
 by_cases c1:x.v<18446744073709551616
 .rw[aj c1,aw]
  by_cases c2:y.v<18446744073709551616
  .have Ax:Nat.gcd x.v y.v<18446744073709551616:=by
    by_cases h0:x.v=0
    .rw[h0,Nat.gcd_zero_left];exact c2
    .exact jG (Nat.gcd_le_left _ (na h0)) c1
   rw[aj c2,qgC c1,qgD c2,qc0 _ _ y.v x.v y.v rfl c1 c2,qa4,dW (eK _ _),FO Ax]
   rfl
  .rw[ag c2];exact big rfl
 .rw[ag c1];exact big rfl
end Go.Ab
namespace Go.Ab
def fA(neg:Bool)(n:Nat):Int:=if neg then -(n:Int) else n
def ew(neg:Bool)(n d:Nat):Rat:=mkRat (fA neg n) d
theorem DU(neg:Bool)(n:Nat):(fA neg n).natAbs=n:=by cases neg<;>simp[fA]
theorem yY(neg:Bool)(n:Nat):ew neg n 0=0:=by simp[ew,Rat.mkRat_zero]
theorem HO(neg:Bool)(d:Nat):ew neg 0 d=0:=by
 have:fA neg 0=0:=by cases neg<;>rfl
 rw[ew,this,Rat.zero_mkRat]
theorem AW{neg:Bool}{n d:Nat}(hd:d≠0):(ew neg n d).num.natAbs=n/Nat.gcd n d:=by
 rw[ew,Rat.num_mkRat,ag hd,DU,uo]
 cases neg with
 | false=>rfl
 | true=>
  have yg:((Nat.gcd n d:Nat):Int)∣(n:Int):=Int.natCast_dvd_natCast.2 (Nat.gcd_dvd_left _ _);show (-(n:Int)/((Nat.gcd n d:Nat):Int)).natAbs=_;rw[Int.neg_ediv_of_dvd yg,Int.natAbs_neg]
  rfl
theorem AX{neg:Bool}{n d:Nat}(hd:d≠0):(ew neg n d).den=d/Nat.gcd n d:=by
 rw[ew,Rat.den_mkRat,ag hd,DU,uo]
theorem DJ{neg:Bool}{n d:Nat}(hd:d≠0):decide ((ew neg n d).num<0)=(neg&&decide (n/Nat.gcd n d>0)):=by
 have yg:((Nat.gcd n d:Nat):Int)∣(n:Int):=Int.natCast_dvd_natCast.2 (Nat.gcd_dvd_left _ _)
 have e:(ew neg n d).num=fA neg (n/Nat.gcd n d):=by
  rw[ew,Rat.num_mkRat,ag hd,DU,uo]
  cases neg with
  | false=>rfl
  | true=>
   show -(n:Int)/((Nat.gcd n d:Nat):Int)=_;rw[Int.neg_ediv_of_dvd yg]
   rfl
 rw[e]
 cases neg with
 | false=>
  rw[Bool.false_and];exact kC (Int.not_lt.2 (ue _))
 | true=>
  simp only[fA,eC,ow];exact mI.2 (by omega)
theorem qiJ{neg:Bool}{n d:Nat}(hd:d≠0):ew neg n d=0↔n=0:=by
 rw[ew,Rat.mkRat_eq_zero hd];cases neg<;>simp[fA]
theorem qiK(neg:Bool)(n d:Nat):ew (!neg) n d=-ew neg n d:=by
 rw[ew,ew,Rat.neg_mkRat];cases neg<;>simp[fA]
theorem DI(s t:Bool)(n d k e:Nat):ew s n d*ew t k e=ew (s != t) (n*k) (d*e):=by
 rw[ew,ew,ew,Rat.mkRat_mul_mkRat];congr 1;cases s<;>cases t<;>simp[fA,l5,Int.neg_mul,Int.mul_neg]
theorem Nm{s t:Bool}{n d k e:Nat}(hd:d≠0)(he:e≠0):ew s n d+ew t k e=mkRat (fA s (n*e)+fA t (k*d)) (d*e):=by
 rw[ew,ew,Rat.mkRat_add_mkRat _ _ hd he];congr 1;cases s<;>cases t<;>simp[fA,l5,Int.neg_mul]
theorem Wl{s:Bool}{x y:Nat}:fA s x+fA s y=fA s (x+y):=by cases s<;>simp[fA]<;>omega
theorem Wj{s t:Bool}{x y:Nat}(h:s≠t)(Mn:¬ x<y):fA s x+fA t y=fA s (x-y):=by
 cases s<;>cases t<;>simp[fA] at h ⊢<;>omega
theorem Wk{s t:Bool}{x y:Nat}(h:s≠t)(Mn:x<y):fA s x+fA t y=fA t (y-x):=by
 cases s<;>cases t<;>simp[fA] at h ⊢<;>omega
structure RV where
 neg:Bool
 num:NV
 den:NV
def RV.av(r:RV):AV:=.agg [.bool r.neg,r.num.av,r.den.av]
def RV.fr(r:RV):RV:=⟨r.neg,r.num.fr,r.den.fr⟩
def RV.q(r:RV):Rat:=ew r.neg r.num.v r.den.v
structure ROk (k:Nat) (r:RV):Prop where
 num:NOk r.num
 den:NOk r.den
 ln:r.num.ds.length<=k
 ld:r.den.ds.length<=k
theorem ROk.fr{k:Nat}{r:RV}(h:ROk k r):ROk k r.fr:=⟨h.num.fr,h.den.fr,h.ln,h.ld⟩
theorem ROk.mono{k k':Nat}{r:RV}(h:ROk k r)(hk:k<=k'):ROk k' r:=⟨h.num,h.den,b7 h.ln hk,b7 h.ld hk⟩
theorem RV.fr_q(r:RV):r.fr.q=r.q:=rfl
theorem gA(r:RV):Fz r.av r.fr.av:=by
 intro m;have e:frz m eo r.av=(bJ (frz m 8) [.bool r.neg,r.num.av,r.den.av]).map fun r=>(.agg r.1,r.2):=rfl;rw[e];simp[bJ,CB r.neg m 7,pf r.num m 7,pf r.den m 7,RV.fr,RV.av]
theorem ib(r:RV):gV r.av=true:=by simp[RV.av,gV,mh,NV.av]
structure Can (r:RV) (q:Rat):Prop where
 neg:r.neg=decide (q.num<0)
 num:r.num.ds=an q.num.natAbs
 den:r.den.ds=an q.den
 numz:r.num.z=true->r.num.ds=[]
 denz:r.den.z=true->r.den.ds=[]
theorem Can.q{r:RV}{q:Rat}(h:Can r q):r.q=q:=by
 rw[RV.q,NV.v,NV.v,h.num,h.den,fG,fG,h.neg,ew]
 have e:fA (decide (q.num<0)) q.num.natAbs=q.num:=by
  by_cases hq:q.num<0
  .simp[fA,hq];omega
  .simp[fA,hq];omega
 rw[e];exact Rat.mkRat_self q
def Bd(k:Nat)(q:Rat):Prop:=(an q.num.natAbs).length<=k/\(an q.den).length<=k
theorem Can.ok{r:RV}{q:Rat}{k:Nat}(h:Can r q)(hb:Bd k q)(hk:k<2^40):ROk k r:=by
 refine ⟨⟨by rw[h.num];exact eU _,by rw[h.num];exact jG hb.1 hk,h.numz⟩,⟨by rw[h.den];exact eU _,by rw[h.den];exact jG hb.2 hk,h.denz⟩,by rw[h.num];exact hb.1,by rw[h.den];exact hb.2⟩
theorem Can.den0{r:RV}{q:Rat}(h:Can r q):r.den.v≠0:=by
 rw[NV.v,h.den,fG];exact q.den_nz
theorem kZ{a b i j:Nat}(ha:(an a).length<=i)(hb:(an b).length<=j):(an (a*b)).length<=i+j:=by
 refine tv ?_;have h1:=mY (eU a);have h2:=mY (eU b);rw[fG] at h1 h2;have h3:4294967296^(an a).length<=4294967296^i:=qp (by omega) ha;have h4:4294967296^(an b).length<=4294967296^j:=qp (by omega) hb;rw[qL];exact Nat.mul_lt_mul'' (by omega) (by omega)
theorem MB{a b i:Nat}(ha:(an a).length<=i)(hb:(an b).length<=i):(an (a+b)).length<=i+1:=by
 refine tv ?_;have h1:=mY (eU a);have h2:=mY (eU b);rw[fG] at h1 h2;have h3:4294967296^(an a).length<=4294967296^i:=qp (by omega) ha;have h4:4294967296^(an b).length<=4294967296^i:=qp (by omega) hb;rw[jS];omega
theorem Du:(an 1).length<=1:=tv (by omega)
theorem Er{neg:Bool}{n d k:Nat}(hn:(an n).length<=k)(hd:(an d).length<=k)(hk:1<=k):Bd k (ew neg n d):=by
 by_cases h0:d=0
 .subst h0;rw[yY]
  refine ⟨?_,?_⟩
  .show (an 0).length<=k;rw[jK];exact jH _
  .show (an 1).length<=k;exact b7 Du hk
 .refine ⟨?_,?_⟩
  .rw[AW h0];exact b7 (kD (BX _ _)) hn
  .rw[AX h0];exact b7 (kD (BX _ _)) hd
theorem Bd.mono{k k':Nat}{q:Rat}(h:Bd k q)(hk:k<=k'):Bd k' q:=⟨b7 h.1 hk,b7 h.2 hk⟩
theorem yZ(q:Rat):ew (decide (q.num<0)) q.num.natAbs q.den=q:=by
 have e:fA (decide (q.num<0)) q.num.natAbs=q.num:=by
  by_cases hq:q.num<0
  .simp[fA,hq];omega
  .simp[fA,hq];omega
 rw[ew,e];exact Rat.mkRat_self q
theorem zp{p q:Rat}{k l:Nat}(hp:Bd k p)(hq:Bd l q)(hk:1<=k):Bd (k+l) (p*q):=by
 rw[<- yZ p,<- yZ q,DI];exact Er (kZ hp.1 hq.1) (kZ hp.2 hq.2) (by omega)
theorem qhS(x:Int):∃s n,x=fA s n/\n=x.natAbs:=⟨decide (x<0),x.natAbs,by
 by_cases hq:x<0
 .simp[fA,hq];omega
 .simp[fA,hq];omega,rfl⟩
theorem Oe{p q:Rat}{k l:Nat}(hp:Bd k p)(hq:Bd l q)(hk:1<=k):Bd (k+l+1) (p+q):=by
 have h1:=kZ hp.1 hq.2;have h2:=kZ hq.1 hp.2;rw[<- yZ p,<- yZ q,Nm p.den_nz q.den_nz];obtain ⟨s,n,e1,e2⟩:=qhS (fA (decide (p.num<0)) (p.num.natAbs*q.den)+fA (decide (q.num<0)) (q.num.natAbs*p.den))
 have hle:n<=p.num.natAbs*q.den+q.num.natAbs*p.den:=by
  rw[e2];refine b7 (Int.natAbs_add_le _ _) ?_;rw[DU,DU];exact aW _
 have iv:(an (q.num.natAbs*p.den)).length<=k+l:=by omega
 have h3:=MB h1 iv;rw[e1,<- ew];exact Er (b7 (kD hle) h3) (b7 (kZ hp.2 hq.2) (by omega)) (by omega)
theorem Bv{k:Nat}(hk:1<=k):Bd k 0:=⟨by show (an 0).length<=k;rw[jK];exact jH _,b7 (by show (an 1).length<=1;exact Du) hk⟩
theorem Bu{k:Nat}(hk:1<=k):Bd k 1:=⟨b7 (by show (an 1).length<=1;exact Du) hk,b7 (by show (an 1).length<=1;exact Du) hk⟩
theorem ROk.bd{k:Nat}{r:RV}(h:ROk k r)(hk:1<=k):Bd k r.q:=Er (b7 h.num.v_len h.ln) (b7 h.den.v_len h.ld) hk
def jl(r:RV):Bool:=pe r.num.ds&&(pe r.den.ds&&(decide (r.den.v≠0)&&(!(decide (r.num.v=0)&&r.neg)&&decide (Nat.gcd r.num.v r.den.v=1))))
theorem VK{r:RV}(hr:jl r=true)(hz:r.num.z=true->r.num.ds=[])(Mq:r.den.z=true->r.den.ds=[]):Can r r.q:=by
 simp only[jl,pe,dY,vU,rH,Bool.and_eq_false_iff,decide_eq_false_iff_not] at hr;obtain ⟨h1,h2,h3,h4,h5⟩:=hr;have e1:r.q.num.natAbs=r.num.v:=by rw[RV.q,AW h3,h5,Nat.div_one]
 have e2:r.q.den=r.den.v:=by rw[RV.q,AX h3,h5,Nat.div_one]
 refine ⟨?_,by rw[e1];exact h1,by rw[e2];exact h2,hz,Mq⟩;rw[RV.q,DJ h3,h5,Nat.div_one]
 rcases h4 with h4|h4
 .cases hn:r.neg with
  | false=>rfl
  | true=>simp;omega
 .rw[h4];rfl
theorem Cm{r:RV}{q:Rat}(h:Can r q):jl r=true:=by
 have hd:=h.den0;have e1:r.num.v=q.num.natAbs:=by rw[NV.v,h.num,fG]
 have e2:r.den.v=q.den:=by rw[NV.v,h.den,fG]
 simp only[jl,pe,dY,vU,rH,Bool.and_eq_false_iff,decide_eq_false_iff_not]
 refine ⟨?_,?_,hd,?_,?_⟩
 .rw[h.num,fG]
 .rw[h.den,fG]
 .by_cases h0:r.num.v=0
  .right;rw[h.neg];have:q.num=0:=by omega
   rw[this];rfl
  .exact .inl h0
 .rw[e1,e2];exact q.reduced
end Go.Ab
namespace Go.Ab
def cR(r:RV):Option Ent:=some (.obj true [.bool r.neg,r.num.av,r.den.av])
def jk:NV:=⟨true,.full,[]⟩
def zR:RV:=⟨false,jk,jk⟩
theorem cr(m:ae)(r:RV):ef none (some 3) m r.av=some (.ptr m.length 0,m++[cR r]):=rfl
theorem di(m:ae):ak none m (.obj true [.bool false,jk.av,jk.av])=(m.length,m++[cR zR]):=rfl
theorem bc(m:ae):ak none m .resv=(m.length,m++[some .resv]):=rfl
theorem dj(m:ae)(n:Nat):ak (some n) m (.obj true [.bool false,jk.av,jk.av])=(n,m.set n (cR zR)):=rfl
theorem dh(m:ae)(n:Nat):ak (some n) m .resv=(n,m.set n (some .resv)):=rfl
theorem bj(n:Nat):aB 0 (.ptr n 0)=some (.ptr n 0):=rfl
theorem ba(n:Nat):aB 1 (.ptr n 0)=some (.ptr n 1):=rfl
theorem bE(n:Nat):aB 2 (.ptr n 0)=some (.ptr n 2):=rfl
theorem b6(m:ae):eH m 1=m++[some .resv]:=rfl
theorem cF(m:ae):eH m 2=m++[some .resv,some .resv]:=rfl
theorem cu{M:ae}{r:RV}:ai none (cR r::M) (.ptr 0 0)=some (.bool r.neg):=rfl
theorem cw{M:ae}{r:RV}:ai none (cR r::M) (.ptr 0 1)=some (r.num.av):=rfl
theorem ct{M:ae}{r:RV}:ai none (cR r::M) (.ptr 0 2)=some (r.den.av):=rfl
theorem cO{M:ae}{r:RV}:ai (some 3) (cR r::M) (.ptr 0 0)=some r.av:=rfl
theorem dw{M:ae}{r r':RV}:aA (some 3) (cR r::M) (.ptr 0 0) r'.av=some (cR r'::M):=rfl
theorem dz{M:ae}{r:RV}{b:Bool}:aA none (cR r::M) (.ptr 0 0) (.bool b)=some (cR ⟨b,r.num,r.den⟩::M):=rfl
theorem cS{c0:Option Ent}{M:ae}{r:RV}:ai none (c0::cR r::M) (.ptr 1 0)=some (.bool r.neg):=rfl
theorem cT{c0:Option Ent}{M:ae}{r:RV}:ai none (c0::cR r::M) (.ptr 1 1)=some (r.num.av):=rfl
theorem cQ{c0:Option Ent}{M:ae}{r:RV}:ai none (c0::cR r::M) (.ptr 1 2)=some (r.den.av):=rfl
theorem cP{c0:Option Ent}{M:ae}{r:RV}:ai (some 3) (c0::cR r::M) (.ptr 1 0)=some r.av:=rfl
theorem dA{c0:Option Ent}{M:ae}{r r':RV}:aA (some 3) (c0::cR r::M) (.ptr 1 0) r'.av=some (c0::cR r'::M):=rfl
theorem dB{c0:Option Ent}{M:ae}{r:RV}{b:Bool}:aA none (c0::cR r::M) (.ptr 1 0) (.bool b)=some (c0::cR ⟨b,r.num,r.den⟩::M):=rfl
theorem cW{c0 c1:Option Ent}{M:ae}{r:RV}:ai none (c0::c1::cR r::M) (.ptr 2 0)=some (.bool r.neg):=rfl
theorem cX{c0 c1:Option Ent}{M:ae}{r:RV}:ai none (c0::c1::cR r::M) (.ptr 2 1)=some (r.num.av):=rfl
theorem cV{c0 c1:Option Ent}{M:ae}{r:RV}:ai none (c0::c1::cR r::M) (.ptr 2 2)=some (r.den.av):=rfl
theorem cU{c0 c1:Option Ent}{M:ae}{r:RV}:ai (some 3) (c0::c1::cR r::M) (.ptr 2 0)=some r.av:=rfl
theorem dC{c0 c1:Option Ent}{M:ae}{r r':RV}:aA (some 3) (c0::c1::cR r::M) (.ptr 2 0) r'.av=some (c0::c1::cR r'::M):=rfl
theorem dD{c0 c1:Option Ent}{M:ae}{r:RV}{b:Bool}:aA none (c0::c1::cR r::M) (.ptr 2 0) (.bool b)=some (c0::c1::cR ⟨b,r.num,r.den⟩::M):=rfl
theorem c8{c0 c1 c2:Option Ent}{M:ae}{r:RV}:ai none (c0::c1::c2::cR r::M) (.ptr 3 0)=some (.bool r.neg):=rfl
theorem c9{c0 c1 c2:Option Ent}{M:ae}{r:RV}:ai none (c0::c1::c2::cR r::M) (.ptr 3 1)=some (r.num.av):=rfl
theorem cZ{c0 c1 c2:Option Ent}{M:ae}{r:RV}:ai none (c0::c1::c2::cR r::M) (.ptr 3 2)=some (r.den.av):=rfl
theorem cY{c0 c1 c2:Option Ent}{M:ae}{r:RV}:ai (some 3) (c0::c1::c2::cR r::M) (.ptr 3 0)=some r.av:=rfl
theorem dE{c0 c1 c2:Option Ent}{M:ae}{r r':RV}:aA (some 3) (c0::c1::c2::cR r::M) (.ptr 3 0) r'.av=some (c0::c1::c2::cR r'::M):=rfl
theorem dF{c0 c1 c2:Option Ent}{M:ae}{r:RV}{b:Bool}:aA none (c0::c1::c2::cR r::M) (.ptr 3 0) (.bool b)=some (c0::c1::c2::cR ⟨b,r.num,r.den⟩::M):=rfl
theorem de{c0 c1 c2 c3:Option Ent}{M:ae}{r:RV}:ai none (c0::c1::c2::c3::cR r::M) (.ptr 4 0)=some (.bool r.neg):=rfl
theorem df{c0 c1 c2 c3:Option Ent}{M:ae}{r:RV}:ai none (c0::c1::c2::c3::cR r::M) (.ptr 4 1)=some (r.num.av):=rfl
theorem dd{c0 c1 c2 c3:Option Ent}{M:ae}{r:RV}:ai none (c0::c1::c2::c3::cR r::M) (.ptr 4 2)=some (r.den.av):=rfl
theorem dc{c0 c1 c2 c3:Option Ent}{M:ae}{r:RV}:ai (some 3) (c0::c1::c2::c3::cR r::M) (.ptr 4 0)=some r.av:=rfl
theorem dG{c0 c1 c2 c3:Option Ent}{M:ae}{r r':RV}:aA (some 3) (c0::c1::c2::c3::cR r::M) (.ptr 4 0) r'.av=some (c0::c1::c2::c3::cR r'::M):=rfl
theorem dH{c0 c1 c2 c3:Option Ent}{M:ae}{r:RV}{b:Bool}:aA none (c0::c1::c2::c3::cR r::M) (.ptr 4 0) (.bool b)=some (c0::c1::c2::c3::cR ⟨b,r.num,r.den⟩::M):=rfl
theorem bY(a:AV)(l:List AV):bg (.tup (a::l)) 0=some a:=rfl
theorem bZ(a b:AV)(l:List AV):bg (.tup (a::b::l)) 1=some b:=rfl
theorem cN(a b c:AV)(l:List AV):bg (.tup (a::b::c::l)) 2=some c:=rfl
theorem cJ:eI (.agg [.bool false,jk.av,jk.av]) []=some zR.av:=rfl
theorem cL(x:NV):eI (.agg [.bool false,jk.av,jk.av]) [(2,none,x.av)]=some (RV.av ⟨false,jk,x⟩):=rfl
theorem cK(x y:NV):eI (.agg [.bool false,jk.av,jk.av]) [(1,none,x.av),(2,none,y.av)]=some (RV.av ⟨false,x,y⟩):=rfl
theorem cg(b:Bool)(x y:NV):eI (.agg [.bool false,jk.av,jk.av]) [(0,none,.bool b),(1,none,x.av),(2,none,y.av)]=some (RV.av ⟨b,x,y⟩):=rfl
theorem ck:AV.lst none true .full []=jk.av:=rfl
theorem bB(b:Bool):iI .not (.bool b)=some (.bool (!b)):=rfl
theorem cH(a b:Bool):af .bl .neq (.bool a) (.bool b)=some (.bool (a != b)):=rfl
theorem cG(a b:Bool):af .bl .eql (.bool a) (.bool b)=some (.bool (a==b)):=rfl
section
variable {cp:Nat->List AV->Option AV} {d:Option Nat} {m:ae} {g:Nat}
theorem cE(x:NV):ao cp d m g [x.av]=(cp g [x.fr.av]).map fun v=>(v,m):=dW (dN x)
theorem cC(k:IntKind)(n:Int):ao cp d m g [.int k n]=(cp g [.int k n]).map fun v=>(v,m):=dW (eK k n)
theorem dp(x y:NV):ao cp d m g [x.av,y.av]=(cp g [x.fr.av,y.fr.av]).map fun v=>(v,m):=gO (dN x) (dN y)
theorem dn(b:Bool)(x y:NV):ao cp d m g [.bool b,x.av,y.av]=(cp g [.bool b,x.fr.av,y.fr.av]).map fun v=>(v,m):=yV (qU b) (dN x) (dN y)
theorem bS(r:RV):ao cp d m g [r.av]=(cp g [r.fr.av]).map fun v=>(v,m):=dW (gA r)
theorem bU(r s:RV):ao cp d m g [r.av,s.av]=(cp g [r.fr.av,s.fr.av]).map fun v=>(v,m):=gO (gA r) (gA s)
theorem b8:ao cp d m g []=(cp g []).map fun v=>(v,m):=DH
end
theorem SA(m:ae)(r:RV):frz m 8 r.av=some (r.fr.av,[]):=by
 have e:frz m 8 r.av=(bJ (frz m 7) [.bool r.neg,r.num.av,r.den.av]).map fun r=>(.agg r.1,r.2):=rfl;rw[e];simp[bJ,CB r.neg m 6,pf r.num m 6,pf r.den m 6,RV.fr,RV.av]
theorem uF(r:RV){b b':AV}(hb:∀m k,frz m (k+1) b=some (b',[])):Fz (.tup [r.av,b]) (.tup [r.fr.av,b']):=by
 intro m;show (bJ (frz m 8) [r.av,b]).map _=_;simp[bJ,SA,hb m 7]
end Go.Ab
namespace Go.Ab
structure LV where
 sh:Sh
 z:Bool
 o:Own
 es:List RV
def LV.av(l:LV):AV:=.lst l.sh l.z l.o (l.es.map RV.av)
def LV.fr(l:LV):LV:=⟨l.sh,l.z,l.o.fr,l.es⟩
structure LOk (k:Nat) (l:LV):Prop where
 sh:l.sh=some 3\/l.es=[]
 z:l.z=true->l.es=[]
 fr:∀r∈l.es,r.fr=r
 ok:∀r∈l.es,ROk k r
structure MV where
 rows:Int
 cols:Int
 lv:LV
def MV.av(x:MV):AV:=.agg [.int .i64 x.rows,.int .i64 x.cols,x.lv.av]
def MV.fr(x:MV):MV:=⟨x.rows,x.cols,x.lv.fr⟩
theorem LOk.fr'{k:Nat}{l:LV}(h:LOk k l):LOk k l.fr:=⟨h.sh,h.z,h.fr,h.ok⟩
theorem LOk.mono{k k':Nat}{l:LV}(h:LOk k l)(hk:k<=k'):LOk k' l:=⟨h.sh,h.z,h.fr,fun r hr=>(h.ok r hr).mono hk⟩
theorem lH(x:MV):Fz x.av x.fr.av:=by
 intro m;have e:frz m eo x.av=(bJ (frz m 8) [.int .i64 x.rows,.int .i64 x.cols,x.lv.av]).map fun r=>(.agg r.1,r.2):=rfl;rw[e];simp[bJ,gH .i64 x.rows m 7,gH .i64 x.cols m 7,Ak x.lv.sh x.lv.z x.lv.o (x.lv.es.map RV.av) m 7,MV.fr,MV.av,LV.fr,LV.av]
theorem DG(x:MV):gV x.av=true:=rfl
theorem qga(m:ae)(x:MV):frz m 8 x.av=some (x.fr.av,[]):=by
 have e:frz m 8 x.av=(bJ (frz m 7) [.int .i64 x.rows,.int .i64 x.cols,x.lv.av]).map fun r=>(.agg r.1,r.2):=rfl;rw[e];simp[bJ,gH .i64 x.rows m 6,gH .i64 x.cols m 6,Ak x.lv.sh x.lv.z x.lv.o (x.lv.es.map RV.av) m 6,MV.fr,MV.av,LV.fr,LV.av]
theorem CA(r:MV){b b':AV}(hb:∀m k,frz m (k+1) b=some (b',[])):Fz (.tup [r.av,b]) (.tup [r.fr.av,b']):=by
 intro m;show (bJ (frz m 8) [r.av,b]).map _=_;simp[bJ,qga,hb m 7]
theorem sB(l:LV):aY false l.av=some (.int .i64 l.es.length):=by simp[LV.av,aY]
theorem tR{l:LV}{k k':Nat}{kk:IntKind}(h:LOk k' l)(hk:k<l.es.length):aJ (some 3) l.av (.int kk k)=some (.vptr (l.es[k].av).cells):=by
 have hs:l.sh=some 3:=h.sh.resolve_right (fun e=>by rw[e] at hk;simp at hk);simp[LV.av,aJ,hs,hk]
theorem sD(m:ae)(r:RV):ai (some 3) m (.vptr r.av.cells)=some r.av:=rfl
theorem F7{r:RV}(h:r.fr=r):iq (some 3) [r.av]=some (.lst (some 3) false .full [r.av]):=by
 obtain ⟨n,⟨z1,o1,d1⟩,⟨z2,o2,d2⟩⟩:=r;simp only[RV.fr,NV.fr,RV.mk.injEq,NV.mk.injEq,true_and,and_true] at h;cases o1<;>cases o2<;>simp[Own.fr] at h<;>rfl
def cM(x:MV):Option Ent:=some (.obj true [.int .i64 x.rows,.int .i64 x.cols,x.lv.av])
def b9:LV:=⟨none,true,.full,[]⟩
def zM:MV:=⟨0,0,b9⟩
theorem im(m:ae)(x:MV):ef none (some 3) m x.av=some (.ptr m.length 0,m++[cM x]):=rfl
theorem iG(m:ae):ak none m (.obj true [.int .i64 0,.int .i64 0,.lst none true .full []])=(m.length,m++[cM zM]):=rfl
theorem Hq{m:ae}{n:Nat}{e:Ent}(h:m[n]?=some (some e)):m.get n=some e:=by simp[ae.get,h]
theorem jc{m:ae}{n:Nat}{bx:Bool}{cs:List AV}(h:m[n]?=some (some (.obj bx cs))):m.obj? n=some (bx,cs):=by simp[ae.obj?,ae.get,h]
theorem gh{m:ae}{n:Nat}{x:MV}(h:m[n]?=some (cM x)):ai none m (.ptr n 0)=some (.int .i64 x.rows):=by
 simp[ai,jc h,jU]
theorem fh{m:ae}{n:Nat}{x:MV}(h:m[n]?=some (cM x)):ai none m (.ptr n 1)=some (.int .i64 x.cols):=by
 simp[ai,jc h,jU]
theorem oj{m:ae}{n:Nat}{x:MV}(h:m[n]?=some (cM x)):ai none m (.ptr n 2)=some x.lv.av:=by
 simp[ai,jc h,jU]
theorem bC{m:ae}{n:Nat}{x:MV}(h:m[n]?=some (cM x)):ai (some 3) m (.ptr n 0)=some x.av:=by
 simp[ai,jc h,jU,MV.av]
theorem eO{m:ae}{n:Nat}{x y:MV}(h:m[n]?=some (cM x)):aA (some 3) m (.ptr n 0) y.av=some (m.set n (cM y)):=by
 simp only[aA,jc h,aa]
 rfl
theorem UN{m:ae}{n:Nat}{x:MV}{l:LV}(h:m[n]?=some (cM x)):aA none m (.ptr n 2) l.av=some (m.set n (cM ⟨x.rows,x.cols,l⟩)):=by
 simp only[aA,jc h,aa]
 rfl
theorem je{m:ae}{n:Nat}{x:RV}(h:m[n]?=some (cR x)):ai (some 3) m (.ptr n 0)=some x.av:=by
 simp[ai,jc h,jU,RV.av]
theorem qiU{m:ae}{n:Nat}{x:RV}(h:m[n]?=some (cR x)):ai none m (.ptr n 0)=some (.bool x.neg):=by simp[ai,jc h,jU]
theorem HV{m:ae}{n:Nat}{x:RV}(h:m[n]?=some (cR x)):ai none m (.ptr n 1)=some x.num.av:=by simp[ai,jc h,jU]
theorem qiV{m:ae}{n:Nat}{x:RV}(h:m[n]?=some (cR x)):ai none m (.ptr n 2)=some x.den.av:=by simp[ai,jc h,jU]
theorem iV{m:ae}{n:Nat}{x y:RV}(h:m[n]?=some (cR x)):aA (some 3) m (.ptr n 0) y.av=some (m.set n (cR y)):=by
 simp only[aA,jc h,aa]
 rfl
def Kp(m m':ae):Prop:=m.length<=m'.length/\∀(n:Nat) (bx:Bool) (cs:List AV),m[n]?=some (some (Ent.obj bx cs))->m'[n]?=some (some (Ent.obj bx cs))
theorem Kp.refl(m:ae):Kp m m:=⟨aW _,fun _ _ _ h=>h⟩
theorem Kp.trans{a b c:ae}(h:Kp a b)(k:Kp b c):Kp a c:=⟨b7 h.1 k.1,fun n bx cs hh=>k.2 n bx cs (h.2 n bx cs hh)⟩
theorem Kp.app(m e:ae):Kp m (m++e):=⟨by simp,fun n bx cs h=>by
 have hn:n<m.length:=by
  apply jv;intro hc;rw[iC (by omega)] at h;cases h
 rw[er hn];exact h⟩
def gM(m:ae)(l:LV):Prop:=(l=b9)\/(l.sh=some 3/\l.z=false/\l.es≠[]/\∃nm,l.o=.tok nm 43/\m[nm]?=some (some (.tok l.es.length 3)))
theorem gM.app{m:ae}{l:LV}(h:gM m l)(e:ae):gM (m++e) l:=by
 rcases h with h|⟨h1,h2,h3,nm,h4,h5⟩
 .exact .inl h
 .refine .inr ⟨h1,h2,h3,nm,h4,?_⟩
  have hn:nm<m.length:=by
   apply jv;intro hc;rw[iC (by omega)] at h5;cases h5
  rw[er hn];exact h5
theorem gM.set{m:ae}{l:LV}(h:gM m l){n:Nat}{bx:Bool}{cs:List AV}(hn:m[n]?=some (some (.obj bx cs)))(e:Option Ent):gM (m.set n e) l:=by
 rcases h with h|⟨h1,h2,h3,nm,h4,h5⟩
 .exact .inl h
 .refine .inr ⟨h1,h2,h3,nm,h4,?_⟩;have aE:n≠nm:=fun e=>by rw[e,h5] at hn;cases hn
  rw[dM aE];exact h5
theorem qdf{m:ae}{l:LV}{k:Nat}{r:RV}(h:gM m l)(hk:m[k]?=some (some .resv))(hlen:(l.es.length+1)*56<=iU) :
  ∃l' m',eG (some k) false 43 (some 3) 56 m l.av (.lst (some 3) false .full [r.av])=some (l'.av,m')/\gM m' l'/\l'.es=l.es++[r]/\Kp m m':=by
 have jh:k<m.length:=by
  apply jv;intro hc;rw[iC (by omega)] at hk;cases hk
 rcases h with rfl|⟨h1,h2,h3,nm,h4,h5⟩
 .refine ⟨⟨some 3,false,.tok k 43,[r]⟩,m.set k (some (.tok 1 3)),rfl,.inr ⟨rfl,rfl,by simp,k,rfl,by rw[jF jh];rfl⟩,rfl,by simp,?_⟩;intro n bx cs hn;have aE:k≠n:=fun e=>by rw[<- e,hk] at hn;cases hn
  rw[dM aE];exact hn
 .have mQ:nm<m.length:=by
   apply jv;intro hc;rw[iC (by omega)] at h5;cases h5
  refine ⟨⟨some 3,false,.tok nm 43,l.es++[r]⟩,m.set nm (some (.tok (l.es.length+1) 3)),?_,.inr ⟨rfl,rfl,by simp,nm,rfl,by rw[jF mQ];simp⟩,rfl,by simp,?_⟩
  .obtain ⟨sh,z,o,es⟩:=l;simp only at h1 h2 h4;subst h1;subst h2;subst h4;simp[LV.av,eG,hlen,Hq h5,Sh.size]
  .intro n bx cs hn;have aE:nm≠n:=fun e=>by rw[<- e,h5] at hn;cases hn
   rw[dM aE];exact hn
theorem bX{m:ae}{e:Option Ent}:(m++[e])[m.length]?=some e:=by simp
end Go.Ab
namespace Go.Ab
open Go.Proofs.Try
theorem T60(m:ae):AC ab 60 [] m =
 (ao (AP ab) none (ak none m (.obj true [(.bool false),(.lst none true .full []),(.lst none true .full [])])).2 93 [(.int .u64 1)]).bind fun r1=>
 (eI (.agg [(.bool false),(.lst none true .full []),(.lst none true .full [])]) [(2,none,r1.1)]).bind fun v2=>
 (aA (some 3) r1.2 (.ptr (ak none m .resv).1 0) v2).bind fun m3=>
 (ai (some 3) m3 (.ptr (ak none m .resv).1 0)).bind fun v4=>
 some (v4,m3):=
(bW ab 60 [] m (fn:=f60) (c:=al f60) qep rfl).trans (by kernel_rfl)
theorem T64(a0:AV)(m:ae):AC ab 64 [a0] m =
 (ef none (some 3) m a0).bind fun r1=>
 (aB 1 r1.1).bind fun v2=>
 (ai none r1.2 v2).bind fun v3=>
 (ao (AP ab) none r1.2 94 [v3]).bind fun r4=>
 (iI .not r4.1).bind fun v5=>
 au v5 (
 some ((.bool false),r4.2)) (
 (aB 2 r1.1).bind fun v6=>
 (ai none r4.2 v6).bind fun v7=>
 (ao (AP ab) none r4.2 94 [v7]).bind fun r8=>
 (iI .not r8.1).bind fun v9=>
 au v9 (
 some ((.bool false),r8.2)) (
 (aB 2 r1.1).bind fun v10=>
 (ai none r8.2 v10).bind fun v11=>
 (aY false v11).bind fun aV=>
 (af .other .eql aV (.int .i64 0)).bind fun bL=>
 au bL (
 some ((.bool false),r8.2)) (
 (aB 1 r1.1).bind fun bM=>
 (ai none r8.2 bM).bind fun bz=>
 (aY false bz).bind fun bQ=>
 (af .other .eql bQ (.int .i64 0)).bind fun bV=>
 au bV (
 (aB 0 r1.1).bind fun dU=>
 (ai none r8.2 dU).bind fun dL=>
 au dL (
 some ((.bool false),r8.2)) (
 (aB 1 r1.1).bind fun v20=>
 (ai none r8.2 v20).bind fun eg=>
 (aB 2 r1.1).bind fun dV=>
 (ai none r8.2 dV).bind fun fS=>
 (ao (AP ab) none r8.2 96 [eg,fS]).bind fun kQ=>
 (ao (AP ab) none kQ.2 95 [kQ.1]).bind fun oT=>
 (bg oT.1 0).bind fun gW=>
 (bg oT.1 1).bind fun gL=>
 au gL (
 (af .other .eql gW (.int .u64 1)).bind fun fU=>
 some (fU,oT.2)) (
 some ((.bool false),oT.2)))) (
 (aB 1 r1.1).bind fun jP=>
 (ai none r8.2 jP).bind fun v30=>
 (aB 2 r1.1).bind fun ki=>
 (ai none r8.2 ki).bind fun kS=>
 (ao (AP ab) none r8.2 96 [v30,kS]).bind fun sK=>
 (ao (AP ab) none sK.2 95 [sK.1]).bind fun rp=>
 (bg rp.1 0).bind fun lB=>
 (bg rp.1 1).bind fun ry=>
 au ry (
 (af .other .eql lB (.int .u64 1)).bind fun vu=>
 some (vu,rp.2)) (
 some ((.bool false),rp.2)))))):=
(bW ab 64 [a0] m (fn:=f64) (c:=al f64) qet rfl).trans (by kernel_rfl)
theorem B3(a0 a1:AV)(m:ae):AC ab 75 [a0,a1] m =
 (ef none (some 3) m a0).bind fun r1=>
 (ef none (some 3) r1.2 a1).bind fun r2=>
 (ai (some 3) (ak none r2.2 (.obj true [(.bool false),(.lst none true .full []),(.lst none true .full [])])).2 r1.1).bind fun v3=>
 (ao (AP ab) none (ak none r2.2 (.obj true [(.bool false),(.lst none true .full []),(.lst none true .full [])])).2 105 [v3]).bind fun r4=>
 (af .other .eql r4.1 (.int .i64 0)).bind fun v5=>
 au v5 (
 (aB 0 r2.1).bind fun v6=>
 (ai none r4.2 v6).bind fun v7=>
 (aB 1 r2.1).bind fun v8=>
 (ai none r4.2 v8).bind fun v9=>
 (aB 2 r2.1).bind fun v10=>
 (ai none r4.2 v10).bind fun v11=>
 (ao (AP ab) none r4.2 106 [v7,v9,v11]).bind fun qf=>
 (aA (some 3) qf.2 (.ptr (ak none r2.2 .resv).1 0) qf.1).bind fun m13=>
 (ai (some 3) m13 (.ptr (ak none r2.2 .resv).1 0)).bind fun bM=>
 some (bM,m13)) (
 (ai (some 3) r4.2 r2.1).bind fun bz=>
 (ao (AP ab) none r4.2 105 [bz]).bind fun js=>
 (af .other .eql js.1 (.int .i64 0)).bind fun bV=>
 au bV (
 (aB 0 r1.1).bind fun dU=>
 (ai none js.2 dU).bind fun dL=>
 (aB 1 r1.1).bind fun v20=>
 (ai none js.2 v20).bind fun eg=>
 (aB 2 r1.1).bind fun dV=>
 (ai none js.2 dV).bind fun fS=>
 (ao (AP ab) none js.2 106 [dL,eg,fS]).bind fun kQ=>
 (aA (some 3) kQ.2 (.ptr (ak none r2.2 .resv).1 0) kQ.1).bind fun m25=>
 (ai (some 3) m25 (.ptr (ak none r2.2 .resv).1 0)).bind fun gW=>
 some (gW,m25)) (
 (aB 1 r1.1).bind fun gL=>
 (ai none js.2 gL).bind fun fU=>
 (aB 2 r2.1).bind fun jP=>
 (ai none js.2 jP).bind fun v30=>
 (ao (AP ab) (some js.2.length) js.2 107 [fU,v30]).bind fun qC=>
 (aB 1 r2.1).bind fun kS=>
 (ai none qC.2 kS).bind fun lA=>
 (aB 2 r1.1).bind fun pG=>
 (ai none qC.2 pG).bind fun lB=>
 (ao (AP ab) (some js.2.length) qC.2 107 [lA,lB]).bind fun y8=>
 (aB 2 r1.1).bind fun vu=>
 (ai none y8.2 vu).bind fun vw=>
 (aB 2 r2.1).bind fun rz=>
 (ai none y8.2 rz).bind fun ta=>
 (ao (AP ab) (some js.2.length) y8.2 107 [vw,ta]).bind fun tW=>
 (aB 0 r1.1).bind fun D4=>
 (ai none tW.2 D4).bind fun zj=>
 (aB 0 r2.1).bind fun D5=>
 (ai none tW.2 D5).bind fun zk=>
 (af .bl .eql zj zk).bind fun v46=>
 au v46 (
 (aB 0 r1.1).bind fun D6=>
 (ai none tW.2 D6).bind fun Xh=>
 (ao (AP ab) (some tW.2.length) tW.2 108 [qC.1,y8.1]).bind fun wR=>
 (ao (AP ab) (some tW.2.length) wR.2 106 [Xh,wR.1,tW.1]).bind fun VC=>
 (aA (some 3) VC.2 (.ptr (ak none r2.2 .resv).1 0) VC.1).bind fun m51=>
 (ai (some 3) m51 (.ptr (ak none r2.2 .resv).1 0)).bind fun N6=>
 some (N6,m51)) (
 (ao (AP ab) none tW.2 109 [qC.1,y8.1]).bind fun HP=>
 (af .other .lss HP.1 (.int .i64 0)).bind fun v54=>
 au v54 (
 (ai (some 3) HP.2 r2.1).bind fun D7=>
 (aA (some 3) HP.2 r1.1 D7).bind fun m56=>
 (ao (AP ab) none m56 110 [y8.1,qC.1]).bind fun HQ=>
 (bg HQ.1 0).bind fun Xi=>
 (bg HQ.1 1).bind fun Xj=>
 (aB 0 r1.1).bind fun D8=>
 (ai none HQ.2 D8).bind fun v61=>
 (ao (AP ab) none HQ.2 106 [v61,Xi,tW.1]).bind fun VD=>
 (aA (some 3) VD.2 (.ptr (ak none r2.2 .resv).1 0) VD.1).bind fun m63=>
 (ai (some 3) m63 (.ptr (ak none r2.2 .resv).1 0)).bind fun v64=>
 some (v64,m63)) (
 (ao (AP ab) none HP.2 110 [qC.1,y8.1]).bind fun HR=>
 (bg HR.1 0).bind fun v66=>
 (bg HR.1 1).bind fun v67=>
 (aB 0 r1.1).bind fun v68=>
 (ai none HR.2 v68).bind fun v69=>
 (ao (AP ab) none HR.2 106 [v69,v66,tW.1]).bind fun VE=>
 (aA (some 3) VE.2 (.ptr (ak none r2.2 .resv).1 0) VE.1).bind fun m71=>
 (ai (some 3) m71 (.ptr (ak none r2.2 .resv).1 0)).bind fun v72=>
 some (v72,m71))))):=
(bW ab 75 [a0,a1] m (fn:=f75) (c:=al f75) qeB rfl).trans (by kernel_rfl)
theorem T78(a0 a1:AV)(m:ae):AC ab 78 [a0,a1] m =
 (ef none (some 3) m a0).bind fun r1=>
 (ef none (some 3) r1.2 a1).bind fun r2=>
 (aB 0 r1.1).bind fun v3=>
 (ai none (ak none r2.2 (.obj true [(.bool false),(.lst none true .full []),(.lst none true .full [])])).2 v3).bind fun v4=>
 (aB 0 r2.1).bind fun v5=>
 (ai none (ak none r2.2 (.obj true [(.bool false),(.lst none true .full []),(.lst none true .full [])])).2 v5).bind fun v6=>
 (af .bl .neq v4 v6).bind fun v7=>
 (aB 1 r1.1).bind fun v8=>
 (ai none (ak none r2.2 (.obj true [(.bool false),(.lst none true .full []),(.lst none true .full [])])).2 v8).bind fun v9=>
 (aB 1 r2.1).bind fun v10=>
 (ai none (ak none r2.2 (.obj true [(.bool false),(.lst none true .full []),(.lst none true .full [])])).2 v10).bind fun v11=>
 (ao (AP ab) (some (ak none r2.2 (.obj true [(.bool false),(.lst none true .full []),(.lst none true .full [])])).2.length) (ak none r2.2 (.obj true [(.bool false),(.lst none true .full []),(.lst none true .full [])])).2 107 [v9,v11]).bind fun qf=>
 (aB 2 r1.1).bind fun bL=>
 (ai none qf.2 bL).bind fun bM=>
 (aB 2 r2.1).bind fun bz=>
 (ai none qf.2 bz).bind fun bQ=>
 (ao (AP ab) (some (ak none r2.2 (.obj true [(.bool false),(.lst none true .full []),(.lst none true .full [])])).2.length) qf.2 107 [bM,bQ]).bind fun wQ=>
 (ao (AP ab) (some (ak none r2.2 (.obj true [(.bool false),(.lst none true .full []),(.lst none true .full [])])).2.length) wQ.2 106 [v7,qf.1,wQ.1]).bind fun gi=>
 (aA (some 3) gi.2 (.ptr (ak none r2.2 .resv).1 0) gi.1).bind fun m19=>
 (ai (some 3) m19 (.ptr (ak none r2.2 .resv).1 0)).bind fun v20=>
 some (v20,m19):=
(bW ab 78 [a0,a1] m (fn:=f78) (c:=al f78) qeD rfl).trans (by kernel_rfl)
theorem T84(m:ae):AC ab 84 [] m =
 (ao (AP ab) none (ak none m (.obj true [(.bool false),(.lst none true .full []),(.lst none true .full [])])).2 93 [(.int .u64 1)]).bind fun r1=>
 (ao (AP ab) none r1.2 93 [(.int .u64 1)]).bind fun r2=>
 (eI (.agg [(.bool false),(.lst none true .full []),(.lst none true .full [])]) [(1,none,r1.1),(2,none,r2.1)]).bind fun v3=>
 (aA (some 3) r2.2 (.ptr (ak none m .resv).1 0) v3).bind fun m4=>
 (ai (some 3) m4 (.ptr (ak none m .resv).1 0)).bind fun v5=>
 some (v5,m4):=
(bW ab 84 [] m (fn:=f84) (c:=al f84) qeF rfl).trans (by kernel_rfl)
theorem T89(a0:AV)(m:ae):AC ab 89 [a0] m =
 (ef none (some 3) m a0).bind fun r1=>
 (aB 0 r1.1).bind fun v2=>
 (ai none (ak none r1.2 (.obj true [(.bool false),(.lst none true .full []),(.lst none true .full [])])).2 v2).bind fun v3=>
 (iI .not v3).bind fun v4=>
 (aB 1 r1.1).bind fun v5=>
 (ai none (ak none r1.2 (.obj true [(.bool false),(.lst none true .full []),(.lst none true .full [])])).2 v5).bind fun v6=>
 (aB 2 r1.1).bind fun v7=>
 (ai none (ak none r1.2 (.obj true [(.bool false),(.lst none true .full []),(.lst none true .full [])])).2 v7).bind fun v8=>
 (ao (AP ab) none (ak none r1.2 (.obj true [(.bool false),(.lst none true .full []),(.lst none true .full [])])).2 106 [v4,v6,v8]).bind fun r9=>
 (aA (some 3) r9.2 (.ptr (ak none r1.2 .resv).1 0) r9.1).bind fun m10=>
 (ai (some 3) m10 (.ptr (ak none r1.2 .resv).1 0)).bind fun v11=>
 some (v11,m10):=
(bW ab 89 [a0] m (fn:=f89) (c:=al f89) qeJ rfl).trans (by kernel_rfl)
theorem qbK(a0:AV)(m:ae):AC ab 105 [a0] m =
 (ef none (some 3) m a0).bind fun r1=>
 (aB 1 r1.1).bind fun v2=>
 (ai none r1.2 v2).bind fun v3=>
 (ao (AP ab) none r1.2 109 [v3,(.lst none true .full [])]).bind fun r4=>
 (af .other .eql r4.1 (.int .i64 0)).bind fun v5=>
 au v5 (
 some ((.int .i64 0),r4.2)) (
 (aB 2 r1.1).bind fun v6=>
 (ai none r4.2 v6).bind fun v7=>
 (ao (AP ab) none r4.2 109 [v7,(.lst none true .full [])]).bind fun r8=>
 (af .other .eql r8.1 (.int .i64 0)).bind fun v9=>
 au v9 (
 some ((.int .i64 0),r8.2)) (
 (aB 0 r1.1).bind fun v10=>
 (ai none r8.2 v10).bind fun v11=>
 au v11 (
 some ((.int .i64 (-1)),r8.2)) (
 some ((.int .i64 1),r8.2)))):=
(bW ab 105 [a0] m (fn:=f105) (c:=al f105) qdt rfl).trans (by kernel_rfl)
theorem Ql(a0 a1 a2:AV)(m:ae):AC ab 106 [a0,a1,a2] m =
 (ao (AP ab) none (ak none m (.obj true [(.bool false),(.lst none true .full []),(.lst none true .full [])])).2 132 [a0,a1,a2]).bind fun r1=>
 (bg r1.1 0).bind fun v2=>
 (bg r1.1 1).bind fun v3=>
 (aA (some 3) (ak none r1.2 (.obj true [(.bool false),(.lst none true .full []),(.lst none true .full [])])).2 (.ptr (ak none r1.2 .resv).1 0) v2).bind fun m4=>
 (af .other .neq v3 (.int .i64 0)).bind fun v5=>
 au v5 (
 (ao (AP ab) none m4 60 []).bind fun r6=>
 (aA (some 3) r6.2 (.ptr (ak none m .resv).1 0) r6.1).bind fun m7=>
 (ai (some 3) m7 (.ptr (ak none m .resv).1 0)).bind fun v8=>
 some (v8,m7)) (
 (ai (some 3) m4 (.ptr (ak none r1.2 .resv).1 0)).bind fun v9=>
 (aA (some 3) m4 (.ptr (ak none m .resv).1 0) v9).bind fun m10=>
 (ai (some 3) m10 (.ptr (ak none m .resv).1 0)).bind fun v11=>
 some (v11,m10)):=
(bW ab 106 [a0,a1,a2] m (fn:=f106) (c:=al f106) qdu rfl).trans (by kernel_rfl)
theorem qbY(a0 a1:AV)(m:ae):AC ab 122 [a0,a1] m =
 (ef none (some 3) m a0).bind fun r1=>
 (ef none (some 3) r1.2 a1).bind fun r2=>
 (ai (some 3) (ak none r2.2 (.obj true [(.bool false),(.lst none true .full []),(.lst none true .full [])])).2 r2.1).bind fun v3=>
 (ao (AP ab) none (ak none r2.2 (.obj true [(.bool false),(.lst none true .full []),(.lst none true .full [])])).2 105 [v3]).bind fun r4=>
 (af .other .eql r4.1 (.int .i64 0)).bind fun v5=>
 au v5 (
 (eI (.agg [(.bool false),(.lst none true .full []),(.lst none true .full [])]) []).bind fun v6=>
 (aA (some 3) r4.2 (.ptr (ak none r2.2 .resv).1 0) v6).bind fun m7=>
 (ai (some 3) m7 (.ptr (ak none r2.2 .resv).1 0)).bind fun v8=>
 some ((.tup [v8,(.int .i64 31)]),m7)) (
 (aB 0 r1.1).bind fun v9=>
 (ai none r4.2 v9).bind fun v10=>
 (aB 0 r2.1).bind fun v11=>
 (ai none r4.2 v11).bind fun aV=>
 (af .bl .neq v10 aV).bind fun bL=>
 (aB 1 r1.1).bind fun bM=>
 (ai none r4.2 bM).bind fun bz=>
 (aB 2 r2.1).bind fun bQ=>
 (ai none r4.2 bQ).bind fun bV=>
 (ao (AP ab) (some r4.2.length) r4.2 107 [bz,bV]).bind fun gi=>
 (aB 2 r1.1).bind fun dL=>
 (ai none gi.2 dL).bind fun v20=>
 (aB 1 r2.1).bind fun eg=>
 (ai none gi.2 eg).bind fun dV=>
 (ao (AP ab) (some r4.2.length) gi.2 107 [v20,dV]).bind fun jN=>
 (ao (AP ab) (some r4.2.length) jN.2 106 [bL,gi.1,jN.1]).bind fun kQ=>
 (aA (some 3) kQ.2 (.ptr (ak none r2.2 .resv).1 0) kQ.1).bind fun m25=>
 (ai (some 3) m25 (.ptr (ak none r2.2 .resv).1 0)).bind fun gW=>
 some ((.tup [gW,(.int .i64 0)]),m25)):=
(bW ab 122 [a0,a1] m (fn:=f122) (c:=al f122) qdI rfl).trans (by kernel_rfl)
theorem Qo(a0 a1 a2:AV)(m:ae):AC ab 132 [a0,a1,a2] m =
 (ao (AP ab) none (ak none m (.obj true [(.bool false),(.lst none true .full []),(.lst none true .full [])])).2 96 [a1,a2]).bind fun r1=>
 (ao (AP ab) none r1.2 109 [a2,(.lst none true .full [])]).bind fun r2=>
 (af .other .eql r2.1 (.int .i64 0)).bind fun v3=>
 au v3 (
 (eI (.agg [(.bool false),(.lst none true .full []),(.lst none true .full [])]) []).bind fun v4=>
 (aA (some 3) r2.2 (.ptr (ak none m .resv).1 0) v4).bind fun m5=>
 (ai (some 3) m5 (.ptr (ak none m .resv).1 0)).bind fun v6=>
 some ((.tup [v6,(.int .i64 31)]),m5)) (
 (ao (AP ab) none r2.2 125 [a1,r1.1]).bind fun r7=>
 (bg r7.1 0).bind fun v8=>
 (bg r7.1 1).bind fun v9=>
 (bg r7.1 2).bind fun v10=>
 (ao (AP ab) none r7.2 125 [a2,r1.1]).bind fun iH=>
 (bg iH.1 0).bind fun aV=>
 (bg iH.1 1).bind fun bL=>
 (bg iH.1 2).bind fun bM=>
 au a0 (
 (aY false v8).bind fun bz=>
 (af .other .gtr bz (.int .i64 0)).bind fun bQ=>
 (eI (.agg [(.bool false),(.lst none true .full []),(.lst none true .full [])]) [(0,none,bQ),(1,none,v8),(2,none,aV)]).bind fun bV=>
 (aA (some 3) iH.2 (.ptr (ak none m .resv).1 0) bV).bind fun m18=>
 (ai (some 3) m18 (.ptr (ak none m .resv).1 0)).bind fun dL=>
 some ((.tup [dL,(.int .i64 0)]),m18)) (
 (eI (.agg [(.bool false),(.lst none true .full []),(.lst none true .full [])]) [(0,none,(.bool false)),(1,none,v8),(2,none,aV)]).bind fun v20=>
 (aA (some 3) iH.2 (.ptr (ak none m .resv).1 0) v20).bind fun m21=>
 (ai (some 3) m21 (.ptr (ak none m .resv).1 0)).bind fun dV=>
 some ((.tup [dV,(.int .i64 0)]),m21))):=
(bW ab 132 [a0,a1,a2] m (fn:=f132) (c:=al f132) qdT rfl).trans (by kernel_rfl)
theorem qb9(a0 a1:AV)(m:ae):AC ab 135 [a0,a1] m =
 (ef none (some 3) m a0).bind fun r1=>
 (ef none (some 3) r1.2 a1).bind fun r2=>
 (ai (some 3) (ak none r2.2 (.obj true [(.bool false),(.lst none true .full []),(.lst none true .full [])])).2 r1.1).bind fun v3=>
 (ai (some 3) (ak none r2.2 (.obj true [(.bool false),(.lst none true .full []),(.lst none true .full [])])).2 r2.1).bind fun v4=>
 (ao (AP ab) (some (ak none r2.2 (.obj true [(.bool false),(.lst none true .full []),(.lst none true .full [])])).2.length) (ak none r2.2 (.obj true [(.bool false),(.lst none true .full []),(.lst none true .full [])])).2 89 [v4]).bind fun r5=>
 (ao (AP ab) (some (ak none r2.2 (.obj true [(.bool false),(.lst none true .full []),(.lst none true .full [])])).2.length) r5.2 75 [v3,r5.1]).bind fun r6=>
 (aA (some 3) r6.2 (.ptr (ak none r2.2 .resv).1 0) r6.1).bind fun m7=>
 (ai (some 3) m7 (.ptr (ak none r2.2 .resv).1 0)).bind fun v8=>
 some (v8,m7):=
(bW ab 135 [a0,a1] m (fn:=f135) (c:=al f135) qdW rfl).trans (by kernel_rfl)
end Go.Ab
namespace Go.Ab
open Go.Proofs.Try
theorem MQ:NOk jk:=⟨xO,by simp[jk],by simp[jk]⟩
theorem MR:jk.v=0:=rfl
theorem qhD:(an 1).length<2^40:=jG Du (by omega)
def yQ:NV:=⟨false,.no,an 1⟩
theorem Q2:AP ab 93 [.int .u64 1]=some yQ.av:=Q1 (n:=1) (by omega)
def mw:RV:=⟨false,jk,yQ⟩
def j8:RV:=⟨false,yQ,yQ⟩
theorem Cn:Can mw 0:=⟨rfl,jK.symm,rfl,fun _=>rfl,by simp[mw,yQ]⟩
theorem Cl:Can j8 1:=⟨rfl,rfl,rfl,by simp[j8,yQ],by simp[j8,yQ]⟩
theorem Kq:AP ab 60 []=some mw.av:=by
 refine bT _ _ (gA mw) (ib _) (m:=[cR mw]) ?_;rw[T60];simp only[aa,ar,cr,di,bc,dj,dh,bj,ba,bE,b6,cF,cu,cw,ct,cO,dw,dz,cS,cT,cQ,cP,dA,dB,cW,cX,cV,cU,dC,dD,c8,c9,cZ,cY,dE,dF,de,df,dd,dc,dG,dH,bY,bZ,cN,cJ,cL,cK,cg,ck,bB,cH,cG,aR,aX,aK,aZ,bm,bN,aL,bk,bH,dJ,cE,cC,dp,dn,bS,bU,b8,Q2]
 rfl
theorem QZ:AP ab 84 []=some j8.av:=by
 refine bT _ _ (gA j8) (ib _) (m:=[cR j8]) ?_;rw[T84];simp only[aa,ar,cr,di,bc,dj,dh,bj,ba,bE,b6,cF,cu,cw,ct,cO,dw,dz,cS,cT,cQ,cP,dA,dB,cW,cX,cV,cU,dC,dD,c8,c9,cZ,cY,dE,dF,de,df,dd,dc,dG,dH,bY,bZ,cN,cJ,cL,cK,cg,ck,bB,cH,cG,aR,aX,aK,aZ,bm,bN,aL,bk,bH,dJ,cE,cC,dp,dn,bS,bU,b8,Q2]
 rfl
theorem Ad(n:Nat):(gS n 0=0)↔n=0:=by unfold gS;constructor<;>intro h<;>(repeat' split at *)<;>omega
theorem qco{x y:NV}(neg:Bool)(hx:NOk x)(hy:NOk y):(y.v=0/\AP ab 132 [.bool neg,x.av,y.av]=some (.tup [zR.av,.int .i64 31])) \/
  (y.v≠0/\∃r:RV,AP ab 132 [.bool neg,x.av,y.av]=some (.tup [r.av,.int .i64 0])/\Can r (ew neg x.v y.v)/\r.fr=r):=by
 have e1:=Q4 hx.fr hy.fr;have e2:=xC hy.fr MQ;have hg:=SD hx.fr hy.fr;have hgf:(lK x.fr y.fr).fr=lK x.fr y.fr:=qgf _ _;have CU:(lK x.fr y.fr).v=Nat.gcd x.v y.v:=SE _ _;have e3:=Kl hx.fr hg;have e4:=Kl hy.fr hg;have nf:jk.fr=jk:=rfl;have Df:y.fr.v=y.v:=rfl;rw[MR,Df] at e2
 by_cases h0:y.v=0
 .refine .inl ⟨h0,bT _ _ (uF zR (gH _ _)) rfl (m:=[cR zR]) ?_⟩;rw[Qo];simp only[aa,ar,cr,di,bc,dj,dh,bj,ba,bE,b6,cF,cu,cw,ct,cO,dw,dz,cS,cT,cQ,cP,dA,dB,cW,cX,cV,cU,dC,dD,c8,c9,cZ,cY,dE,dF,de,df,dd,dc,dG,dH,bY,bZ,cN,cJ,cL,cK,cg,ck,bB,cH,cG,aR,aX,aK,aZ,bm,bN,aL,bk,bH,dJ,cE,cC,dp,dn,bS,bU,b8,e1,nf,e2,iY,aw];rw[aj ((Ad _).2 h0)]
 .refine .inr ⟨h0,?_⟩
  have yj:Nat.gcd x.v y.v≠0:=by
   have:=Nat.gcd_pos_of_pos_right x.v (na h0);omega
  have hgn:¬ (lK x.fr y.fr).v=0:=by rw[CU];exact yj
  unfold Gr at e3 e4;rw[ag hgn] at e3 e4;have hq:(lG x.fr (lK x.fr y.fr)).ds=an (x.v/Nat.gcd x.v y.v):=by rw[Gm,CU];rfl
  have hd:(lG y.fr (lK x.fr y.fr)).ds=an (y.v/Nat.gcd x.v y.v):=by rw[Gm,CU];rfl
  refine ⟨⟨neg&&decide (x.v/Nat.gcd x.v y.v>0),lG x.fr (lK x.fr y.fr),lG y.fr (lK x.fr y.fr)⟩,?_,⟨(DJ h0).symm,?_,?_,(Sb hx.fr).nil,(Sb hy.fr).nil⟩,?_⟩
  .refine (bT _ _ (uF ⟨neg&&decide (x.v/Nat.gcd x.v y.v>0),lG x.fr (lK x.fr y.fr),lG y.fr (lK x.fr y.fr)⟩ (gH .i64 0)) rfl (m:=[cR ⟨neg&&decide (x.v/Nat.gcd x.v y.v>0),lG x.fr (lK x.fr y.fr),lG y.fr (lK x.fr y.fr)⟩]) ?_).trans (by simp only[RV.fr,Cs]);rw[Qo];simp only[aa,ar,cr,di,bc,dj,dh,bj,ba,bE,b6,cF,cu,cw,ct,cO,dw,dz,cS,cT,cQ,cP,dA,dB,cW,cX,cV,cU,dC,dD,c8,c9,cZ,cY,dE,dF,de,df,dd,dc,dG,dH,bY,bZ,cN,cJ,cL,cK,cg,ck,bB,cH,cG,aR,aX,aK,aZ,bm,bN,aL,bk,bH,dJ,cE,cC,dp,dn,bS,bU,b8,e1,nf,e2,iY,aw];rw[ag (fun h=>h0 ((Ad _).1 h))];simp only[aa,ar,cr,di,bc,dj,dh,bj,ba,bE,b6,cF,cu,cw,ct,cO,dw,dz,cS,cT,cQ,cP,dA,dB,cW,cX,cV,cU,dC,dD,c8,c9,cZ,cY,dE,dF,de,df,dd,dc,dG,dH,bY,bZ,cN,cJ,cL,cK,cg,ck,bB,cH,cG,aR,aX,aK,aZ,bm,bN,aL,bk,bH,dJ,cE,cC,dp,dn,bS,bU,b8,hgf,e3,e4,fk,sF,hq]
   have hlen:decide ((an (x.v/Nat.gcd x.v y.v)).length>0)=decide (x.v/Nat.gcd x.v y.v>0):=mI.2 (by
    constructor
    .intro h;apply na;intro e;rw[e,jK] at h;simp at h
    .intro h;have:(an (x.v/Nat.gcd x.v y.v)).length≠0:=fun e=>by have:=mK.1 e;omega
     omega)
   cases neg with
   | false=>rfl
   | true=>
    rw[jj,hlen];simp only[aa,ar,cr,di,bc,dj,dh,bj,ba,bE,b6,cF,cu,cw,ct,cO,dw,dz,cS,cT,cQ,cP,dA,dB,cW,cX,cV,cU,dC,dD,c8,c9,cZ,cY,dE,dF,de,df,dd,dc,dG,dH,bY,bZ,cN,cJ,cL,cK,cg,ck,bB,cH,cG,aR,aX,aK,aZ,bm,bN,aL,bk,bH,dJ,cE,cC,dp,dn,bS,bU,b8,ow]
  .rw[AW h0];exact hq
  .rw[AX h0];exact hd
  .simp only[RV.fr,Cs]
theorem Od:mw.fr=mw:=rfl
theorem qia:j8.fr=j8:=rfl
theorem zV{x y:NV}(neg:Bool)(hx:NOk x)(hy:NOk y):∃r:RV,AP ab 106 [.bool neg,x.av,y.av]=some r.av/\Can r (ew neg x.v y.v)/\r.fr=r:=by
 rcases qco neg hx.fr hy.fr with ⟨h0,h1⟩|⟨h0,r,h1,h2,h3⟩
 .refine ⟨mw,bT _ _ (gA mw) (ib _) (m:=[cR mw,cR zR]) ?_,?_,Od⟩
  .rw[Ql];simp only[aa,ar,cr,di,bc,dj,dh,bj,ba,bE,b6,cF,cu,cw,ct,cO,dw,dz,cS,cT,cQ,cP,dA,dB,cW,cX,cV,cU,dC,dD,c8,c9,cZ,cY,dE,dF,de,df,dd,dc,dG,dH,bY,bZ,cN,cJ,cL,cK,cg,ck,bB,cH,cG,aR,aX,aK,aZ,bm,bN,aL,bk,bH,dJ,cE,cC,dp,dn,bS,bU,b8,h1,iL,aw];rw[aj (by decide)];simp only[aa,ar,cr,di,bc,dj,dh,bj,ba,bE,b6,cF,cu,cw,ct,cO,dw,dz,cS,cT,cQ,cP,dA,dB,cW,cX,cV,cU,dC,dD,c8,c9,cZ,cY,dE,dF,de,df,dd,dc,dG,dH,bY,bZ,cN,cJ,cL,cK,cg,ck,bB,cH,cG,aR,aX,aK,aZ,bm,bN,aL,bk,bH,dJ,cE,cC,dp,dn,bS,bU,b8,Kq]
  .have:y.v=0:=h0;rw[this,yY];exact Cn
 .refine ⟨r,(bT _ _ (gA r) (ib _) (m:=[cR r,cR r]) ?_).trans (by rw[h3]),h2,h3⟩;rw[Ql];simp only[aa,ar,cr,di,bc,dj,dh,bj,ba,bE,b6,cF,cu,cw,ct,cO,dw,dz,cS,cT,cQ,cP,dA,dB,cW,cX,cV,cU,dC,dD,c8,c9,cZ,cY,dE,dF,de,df,dd,dc,dG,dH,bY,bZ,cN,cJ,cL,cK,cg,ck,bB,cH,cG,aR,aX,aK,aZ,bm,bN,aL,bk,bH,dJ,cE,cC,dp,dn,bS,bU,b8,h1,iL,aw];rw[ag (by decide)]
def pE(r:RV):Int:=if r.num.v=0\/r.den.v=0 then 0 else if r.neg then -1 else 1
theorem Kk{r:RV}{k:Nat}(h:ROk k r):AP ab 105 [r.av]=some (.int .i64 (pE r)):=by
 have nf:jk.fr=jk:=rfl;have e1:=xC h.num.fr MQ;have e2:=xC h.den.fr MQ;have v1:r.num.fr.v=r.num.v:=rfl;have v2:r.den.fr.v=r.den.v:=rfl;rw[MR,v1] at e1;rw[MR,v2] at e2;refine bT _ _ (eK _ _) rfl (m:=[cR r]) ?_;rw[qbK];simp only[aa,ar,cr,di,bc,dj,dh,bj,ba,bE,b6,cF,cu,cw,ct,cO,dw,dz,cS,cT,cQ,cP,dA,dB,cW,cX,cV,cU,dC,dD,c8,c9,cZ,cY,dE,dF,de,df,dd,dc,dG,dH,bY,bZ,cN,cJ,cL,cK,cg,ck,bB,cH,cG,aR,aX,aK,aZ,bm,bN,aL,bk,bH,dJ,cE,cC,dp,dn,bS,bU,b8,nf,e1,iY,aw];unfold pE
 by_cases h1:r.num.v=0
 .rw[aj ((Ad _).2 h1),aj (.inl h1)]
 .rw[ag (fun h=>h1 ((Ad _).1 h))];simp only[aa,ar,cr,di,bc,dj,dh,bj,ba,bE,b6,cF,cu,cw,ct,cO,dw,dz,cS,cT,cQ,cP,dA,dB,cW,cX,cV,cU,dC,dD,c8,c9,cZ,cY,dE,dF,de,df,dd,dc,dG,dH,bY,bZ,cN,cJ,cL,cK,cg,ck,bB,cH,cG,aR,aX,aK,aZ,bm,bN,aL,bk,bH,dJ,cE,cC,dp,dn,bS,bU,b8,e2,iY,aw]
  by_cases h2:r.den.v=0
  .rw[aj ((Ad _).2 h2),aj (.inr h2)]
  .rw[ag (fun h=>h2 ((Ad _).1 h)),ag (fun h=>h.elim h1 h2)];cases hn:r.neg<;>rfl
end Go.Ab
namespace Go.Ab
open Go.Proofs.Try
theorem T23(a0 a1:AV)(m:ae):AC ab 23 [a0,a1] m =
 (ef none (some 3) m a0).bind fun r1=>
 (ef none (some 3) r1.2 a1).bind fun r2=>
 (ai (some 3) r2.2 r1.1).bind fun v3=>
 (ai (some 3) r2.2 r2.1).bind fun v4=>
 (ao (AP ab) none r2.2 66 [v3,v4]).bind fun r5=>
 (af .other .eql r5.1 (.int .i64 0)).bind fun v6=>
 some (v6,r5.2):=
(bW ab 23 [a0,a1] m (fn:=f23) (c:=al f23) qd6 rfl).trans (by kernel_rfl)
theorem T28(m:ae):AC ab 28 [] m =
 (ao (AP ab) none (ak none m (.obj true [(.bool false),(.lst none true .full []),(.lst none true .full [])])).2 70 [(.int .u64 1)]).bind fun r1=>
 (ao (AP ab) none r1.2 70 [(.int .u64 1)]).bind fun r2=>
 (eI (.agg [(.bool false),(.lst none true .full []),(.lst none true .full [])]) [(1,none,r1.1),(2,none,r2.1)]).bind fun v3=>
 (aA (some 3) r2.2 (.ptr (ak none m .resv).1 0) v3).bind fun m4=>
 (ai (some 3) m4 (.ptr (ak none m .resv).1 0)).bind fun v5=>
 some (v5,m4):=
(bW ab 28 [] m (fn:=f28) (c:=al f28) qd8 rfl).trans (by kernel_rfl)
theorem Qr(a0 a1:AV)(m:ae):AC ab 29 [a0,a1] m =
 (ef none (some 3) m a0).bind fun r1=>
 (ef none (some 3) r1.2 a1).bind fun r2=>
 (ai (some 3) (ak none r2.2 (.obj true [(.bool false),(.lst none true .full []),(.lst none true .full [])])).2 r1.1).bind fun v3=>
 (ao (AP ab) (some (ak none r2.2 (.obj true [(.bool false),(.lst none true .full []),(.lst none true .full [])])).2.length) (ak none r2.2 (.obj true [(.bool false),(.lst none true .full []),(.lst none true .full [])])).2 71 [v3]).bind fun r4=>
 (ai (some 3) r4.2 r2.1).bind fun v5=>
 (ao (AP ab) (some (ak none r2.2 (.obj true [(.bool false),(.lst none true .full []),(.lst none true .full [])])).2.length) r4.2 71 [v5]).bind fun r6=>
 (aA (some 3) r6.2 r1.1 r4.1).bind fun m7=>
 (aA (some 3) m7 r2.1 r6.1).bind fun m8=>
 (aB 0 r1.1).bind fun v9=>
 (ai none (eH m8 1) v9).bind fun v10=>
 (aB 0 r2.1).bind fun v11=>
 (ai none (eH m8 1) v11).bind fun aV=>
 (af .bl .neq v10 aV).bind fun bL=>
 (aB 1 r1.1).bind fun bM=>
 (ai none (eH m8 1) bM).bind fun bz=>
 (aB 1 r2.1).bind fun bQ=>
 (ai none (eH m8 1) bQ).bind fun bV=>
 (ao (AP ab) (some m8.length) (eH m8 1) 72 [bz,bV]).bind fun gi=>
 (aB 2 r1.1).bind fun dL=>
 (ai none gi.2 dL).bind fun v20=>
 (aB 2 r2.1).bind fun eg=>
 (ai none gi.2 eg).bind fun dV=>
 (ao (AP ab) (some m8.length) gi.2 72 [v20,dV]).bind fun jN=>
 (ao (AP ab) (some m8.length) jN.2 69 [bL,gi.1,jN.1]).bind fun kQ=>
 (bg kQ.1 0).bind fun fT=>
 (bg kQ.1 1).bind fun gW=>
 (aA (some 3) (ak (some m8.length) kQ.2 (.obj true [(.bool false),(.lst none true .full []),(.lst none true .full [])])).2 (.ptr (ak (some m8.length) kQ.2 .resv).1 0) fT).bind fun m27=>
 (ai (some 3) m27 (.ptr (ak (some m8.length) kQ.2 .resv).1 0)).bind fun fU=>
 (aA (some 3) m27 (.ptr (ak none r2.2 .resv).1 0) fU).bind fun m29=>
 (ai (some 3) m29 (.ptr (ak none r2.2 .resv).1 0)).bind fun v30=>
 some (v30,m29):=
(bW ab 29 [a0,a1] m (fn:=f29) (c:=al f29) qd9 rfl).trans (by kernel_rfl)
theorem T31(m:ae):AC ab 31 [] m =
 (ao (AP ab) none (ak none m (.obj true [(.bool false),(.lst none true .full []),(.lst none true .full [])])).2 70 [(.int .u64 1)]).bind fun r1=>
 (eI (.agg [(.bool false),(.lst none true .full []),(.lst none true .full [])]) [(2,none,r1.1)]).bind fun v2=>
 (aA (some 3) r1.2 (.ptr (ak none m .resv).1 0) v2).bind fun m3=>
 (ai (some 3) m3 (.ptr (ak none m .resv).1 0)).bind fun v4=>
 some (v4,m3):=
(bW ab 31 [] m (fn:=f31) (c:=al f31) qea rfl).trans (by kernel_rfl)
theorem T65(a0:AV)(m:ae):AC ab 65 [a0] m =
 (ef none (some 3) m a0).bind fun r1=>
 (aB 1 r1.1).bind fun v2=>
 (ai none r1.2 v2).bind fun v3=>
 (ao (AP ab) none r1.2 97 [v3]).bind fun r4=>
 (iI .not r4.1).bind fun v5=>
 au v5 (
 some ((.bool false),r4.2)) (
 (aB 2 r1.1).bind fun v6=>
 (ai none r4.2 v6).bind fun v7=>
 (ao (AP ab) none r4.2 97 [v7]).bind fun r8=>
 (iI .not r8.1).bind fun v9=>
 au v9 (
 some ((.bool false),r8.2)) (
 (aB 2 r1.1).bind fun v10=>
 (ai none r8.2 v10).bind fun v11=>
 (aY false v11).bind fun aV=>
 (af .other .eql aV (.int .i64 0)).bind fun bL=>
 au bL (
 some ((.bool false),r8.2)) (
 (aB 1 r1.1).bind fun bM=>
 (ai none r8.2 bM).bind fun bz=>
 (aY false bz).bind fun bQ=>
 (af .other .eql bQ (.int .i64 0)).bind fun bV=>
 au bV (
 (aB 0 r1.1).bind fun dU=>
 (ai none r8.2 dU).bind fun dL=>
 (iI .not dL).bind fun v20=>
 au v20 (
 (aB 2 r1.1).bind fun eg=>
 (ai none r8.2 eg).bind fun dV=>
 (ao (AP ab) (some r8.2.length) r8.2 70 [(.int .u64 1)]).bind fun jN=>
 (ao (AP ab) (some r8.2.length) jN.2 98 [dV,jN.1]).bind fun kQ=>
 (af .other .eql kQ.1 (.int .i64 0)).bind fun fT=>
 some (fT,kQ.2)) (
 some ((.bool false),r8.2))) (
 (aB 1 r1.1).bind fun gW=>
 (ai none r8.2 gW).bind fun gL=>
 (aB 2 r1.1).bind fun fU=>
 (ai none r8.2 fU).bind fun jP=>
 (ao (AP ab) none r8.2 99 [gL,jP]).bind fun VB=>
 (ao (AP ab) none VB.2 70 [(.int .u64 1)]).bind fun qC=>
 (ao (AP ab) none qC.2 98 [VB.1,qC.1]).bind fun mU=>
 (af .other .eql mU.1 (.int .i64 0)).bind fun lA=>
 some (lA,mU.2))))):=
(bW ab 65 [a0] m (fn:=f65) (c:=al f65) qeu rfl).trans (by kernel_rfl)
theorem T66(a0 a1:AV)(m:ae):AC ab 66 [a0,a1] m =
 (ef none (some 3) m a0).bind fun r1=>
 (ef none (some 3) r1.2 a1).bind fun r2=>
 (ai (some 3) r2.2 r1.1).bind fun v3=>
 (ai (some 3) r2.2 r2.1).bind fun v4=>
 (ao (AP ab) none r2.2 100 [v3,v4]).bind fun r5=>
 (ao (AP ab) none r5.2 86 [r5.1]).bind fun r6=>
 some (r6.1,r6.2):=
(bW ab 66 [a0,a1] m (fn:=f66) (c:=al f66) qev rfl).trans (by kernel_rfl)
theorem FG(a0 a1 a2:AV)(m:ae):AC ab 69 [a0,a1,a2] m =
 (ao (AP ab) none (ak none m (.obj true [(.bool false),(.lst none true .full []),(.lst none true .full [])])).2 101 [a2]).bind fun r1=>
 (af .other .eql r1.1 (.int .i64 0)).bind fun v2=>
 au v2 (
 (eI (.agg [(.bool false),(.lst none true .full []),(.lst none true .full [])]) []).bind fun v3=>
 (aA (some 3) r1.2 (.ptr (ak none m .resv).1 0) v3).bind fun m4=>
 (ai (some 3) m4 (.ptr (ak none m .resv).1 0)).bind fun v5=>
 some ((.tup [v5,(.int .i64 31)]),m4)) (
 (ao (AP ab) none r1.2 99 [a1,a2]).bind fun r6=>
 (ao (AP ab) none r6.2 102 [a1,r6.1]).bind fun r7=>
 (bg r7.1 0).bind fun v8=>
 (bg r7.1 1).bind fun v9=>
 (bg r7.1 2).bind fun v10=>
 (ao (AP ab) none r7.2 102 [a2,r6.1]).bind fun iH=>
 (bg iH.1 0).bind fun aV=>
 (bg iH.1 1).bind fun bL=>
 (bg iH.1 2).bind fun bM=>
 au a0 (
 (aY false v8).bind fun bz=>
 (af .other .gtr bz (.int .i64 0)).bind fun bQ=>
 (eI (.agg [(.bool false),(.lst none true .full []),(.lst none true .full [])]) [(0,none,bQ),(1,none,v8),(2,none,aV)]).bind fun bV=>
 (aA (some 3) iH.2 (.ptr (ak none m .resv).1 0) bV).bind fun m18=>
 (ai (some 3) m18 (.ptr (ak none m .resv).1 0)).bind fun dL=>
 some ((.tup [dL,(.int .i64 0)]),m18)) (
 (eI (.agg [(.bool false),(.lst none true .full []),(.lst none true .full [])]) [(0,none,(.bool false)),(1,none,v8),(2,none,aV)]).bind fun v20=>
 (aA (some 3) iH.2 (.ptr (ak none m .resv).1 0) v20).bind fun m21=>
 (ai (some 3) m21 (.ptr (ak none m .resv).1 0)).bind fun dV=>
 some ((.tup [dV,(.int .i64 0)]),m21))):=
(bW ab 69 [a0,a1,a2] m (fn:=f69) (c:=al f69) qex rfl).trans (by kernel_rfl)
theorem FH(a0:AV)(m:ae):AC ab 71 [a0] m =
 (ef none (some 3) m a0).bind fun r1=>
 (aB 0 r1.1).bind fun v2=>
 (ai none (ak none r1.2 (.obj true [(.bool false),(.lst none true .full []),(.lst none true .full [])])).2 v2).bind fun v3=>
 (aB 1 r1.1).bind fun v4=>
 (ai none (ak none r1.2 (.obj true [(.bool false),(.lst none true .full []),(.lst none true .full [])])).2 v4).bind fun v5=>
 (aB 2 r1.1).bind fun v6=>
 (ai none (ak none r1.2 (.obj true [(.bool false),(.lst none true .full []),(.lst none true .full [])])).2 v6).bind fun v7=>
 (ao (AP ab) none (ak none r1.2 (.obj true [(.bool false),(.lst none true .full []),(.lst none true .full [])])).2 69 [v3,v5,v7]).bind fun r8=>
 (bg r8.1 0).bind fun v9=>
 (bg r8.1 1).bind fun v10=>
 (aA (some 3) (ak none r8.2 (.obj true [(.bool false),(.lst none true .full []),(.lst none true .full [])])).2 (.ptr (ak none r8.2 .resv).1 0) v9).bind fun m11=>
 (af .other .neq v10 (.int .i64 0)).bind fun aV=>
 au aV (
 (ao (AP ab) none m11 31 []).bind fun iT=>
 (aA (some 3) iT.2 (.ptr (ak none r1.2 .resv).1 0) iT.1).bind fun m14=>
 (ai (some 3) m14 (.ptr (ak none r1.2 .resv).1 0)).bind fun bz=>
 some (bz,m14)) (
 (ai (some 3) m11 (.ptr (ak none r8.2 .resv).1 0)).bind fun bQ=>
 (aA (some 3) m11 (.ptr (ak none r1.2 .resv).1 0) bQ).bind fun m17=>
 (ai (some 3) m17 (.ptr (ak none r1.2 .resv).1 0)).bind fun dU=>
 some (dU,m17)):=
(bW ab 71 [a0] m (fn:=f71) (c:=al f71) qez rfl).trans (by kernel_rfl)
theorem Kj(a0 a1:AV)(m:ae):AC ab 76 [a0,a1] m =
 (ef none (some 3) m a0).bind fun r1=>
 (ef none (some 3) r1.2 a1).bind fun r2=>
 (ai (some 3) (ak none r2.2 (.obj true [(.bool false),(.lst none true .full []),(.lst none true .full [])])).2 r1.1).bind fun v3=>
 (ao (AP ab) (some (ak none r2.2 (.obj true [(.bool false),(.lst none true .full []),(.lst none true .full [])])).2.length) (ak none r2.2 (.obj true [(.bool false),(.lst none true .full []),(.lst none true .full [])])).2 71 [v3]).bind fun r4=>
 (ai (some 3) r4.2 r2.1).bind fun v5=>
 (ao (AP ab) (some (ak none r2.2 (.obj true [(.bool false),(.lst none true .full []),(.lst none true .full [])])).2.length) r4.2 71 [v5]).bind fun r6=>
 (aA (some 3) r6.2 r1.1 r4.1).bind fun m7=>
 (aA (some 3) m7 r2.1 r6.1).bind fun m8=>
 (aB 1 r1.1).bind fun v9=>
 (ai none m8 v9).bind fun v10=>
 (aB 2 r2.1).bind fun v11=>
 (ai none m8 v11).bind fun aV=>
 (ao (AP ab) (some m8.length) m8 72 [v10,aV]).bind fun iT=>
 (aB 1 r2.1).bind fun bM=>
 (ai none iT.2 bM).bind fun bz=>
 (aB 2 r1.1).bind fun bQ=>
 (ai none iT.2 bQ).bind fun bV=>
 (ao (AP ab) (some m8.length) iT.2 72 [bz,bV]).bind fun gi=>
 (aB 2 r1.1).bind fun dL=>
 (ai none gi.2 dL).bind fun v20=>
 (aB 2 r2.1).bind fun eg=>
 (ai none gi.2 eg).bind fun dV=>
 (ao (AP ab) (some m8.length) gi.2 72 [v20,dV]).bind fun jN=>
 (aB 0 r1.1).bind fun gD=>
 (ai none jN.2 gD).bind fun fT=>
 (ao (AP ab) (some jN.2.length) jN.2 111 [iT.1,gi.1]).bind fun oU=>
 (aB 0 r1.1).bind fun gL=>
 (ai none oU.2 gL).bind fun fU=>
 (aB 0 r2.1).bind fun jP=>
 (ai none oU.2 jP).bind fun v30=>
 (af .bl .neq fU v30).bind fun ki=>
 au ki (
 (ao (AP ab) none oU.2 98 [iT.1,gi.1]).bind fun mU=>
 (af .other .geq mU.1 (.int .i64 0)).bind fun lA=>
 au lA (
 (ao (AP ab) none mU.2 112 [iT.1,gi.1]).bind fun rp=>
 (bg rp.1 0).bind fun lB=>
 (bg rp.1 1).bind fun ry=>
 (ao (AP ab) none rp.2 69 [fT,lB,jN.1]).bind fun sM=>
 (bg sM.1 0).bind fun vw=>
 (bg sM.1 1).bind fun rz=>
 (aA (some 3) (ak none sM.2 (.obj true [(.bool false),(.lst none true .full []),(.lst none true .full [])])).2 (.ptr (ak none sM.2 .resv).1 0) vw).bind fun m40=>
 (ai (some 3) m40 (.ptr (ak none sM.2 .resv).1 0)).bind fun vy=>
 (aA (some 3) m40 (.ptr (ak none r2.2 .resv).1 0) vy).bind fun m42=>
 (ai (some 3) m42 (.ptr (ak none r2.2 .resv).1 0)).bind fun zj=>
 some (zj,m42)) (
 (aB 0 r2.1).bind fun D5=>
 (ai none mU.2 D5).bind fun zk=>
 (ao (AP ab) none mU.2 112 [gi.1,iT.1]).bind fun No=>
 (bg No.1 0).bind fun D6=>
 (bg No.1 1).bind fun Xh=>
 (ao (AP ab) none No.2 69 [zk,D6,jN.1]).bind fun wR=>
 (bg wR.1 0).bind fun N5=>
 (bg wR.1 1).bind fun v51=>
 (aA (some 3) (ak none wR.2 (.obj true [(.bool false),(.lst none true .full []),(.lst none true .full [])])).2 (.ptr (ak none wR.2 .resv).1 0) N5).bind fun m52=>
 (ai (some 3) m52 (.ptr (ak none wR.2 .resv).1 0)).bind fun N7=>
 (aA (some 3) m52 (.ptr (ak none r2.2 .resv).1 0) N7).bind fun m54=>
 (ai (some 3) m54 (.ptr (ak none r2.2 .resv).1 0)).bind fun D7=>
 some (D7,m54))) (
 (ao (AP ab) none oU.2 69 [fT,oU.1,jN.1]).bind fun DP=>
 (bg DP.1 0).bind fun N8=>
 (bg DP.1 1).bind fun Xi=>
 (aA (some 3) (ak none DP.2 (.obj true [(.bool false),(.lst none true .full []),(.lst none true .full [])])).2 (.ptr (ak none DP.2 .resv).1 0) N8).bind fun m59=>
 (ai (some 3) m59 (.ptr (ak none DP.2 .resv).1 0)).bind fun D8=>
 (aA (some 3) m59 (.ptr (ak none r2.2 .resv).1 0) D8).bind fun m61=>
 (ai (some 3) m61 (.ptr (ak none r2.2 .resv).1 0)).bind fun v62=>
 some (v62,m61)):=
(bW ab 76 [a0,a1] m (fn:=f76) (c:=al f76) qeC rfl).trans (by kernel_rfl)
theorem T86(a0:AV)(m:ae):AC ab 86 [a0] m =
 (ef none (some 3) m a0).bind fun r1=>
 (ai (some 3) r1.2 r1.1).bind fun v2=>
 (ao (AP ab) none r1.2 71 [v2]).bind fun r3=>
 (aA (some 3) r3.2 r1.1 r3.1).bind fun m4=>
 (aB 1 r1.1).bind fun v5=>
 (ai none m4 v5).bind fun v6=>
 (aY false v6).bind fun v7=>
 (af .other .eql v7 (.int .i64 0)).bind fun v8=>
 au v8 (
 some ((.int .i64 0),m4)) (
 (aB 0 r1.1).bind fun v9=>
 (ai none m4 v9).bind fun v10=>
 au v10 (
 some ((.int .i64 (-1)),m4)) (
 some ((.int .i64 1),m4))):=
(bW ab 86 [a0] m (fn:=f86) (c:=al f86) qeH rfl).trans (by kernel_rfl)
theorem qbI(a0 a1:AV)(m:ae):AC ab 100 [a0,a1] m =
 (ef none (some 3) m a0).bind fun r1=>
 (ef none (some 3) r1.2 a1).bind fun r2=>
 (ai (some 3) (ak none r2.2 (.obj true [(.bool false),(.lst none true .full []),(.lst none true .full [])])).2 r1.1).bind fun v3=>
 (ai (some 3) (ak none r2.2 (.obj true [(.bool false),(.lst none true .full []),(.lst none true .full [])])).2 r2.1).bind fun v4=>
 (ao (AP ab) (some (ak none r2.2 (.obj true [(.bool false),(.lst none true .full []),(.lst none true .full [])])).2.length) (ak none r2.2 (.obj true [(.bool false),(.lst none true .full []),(.lst none true .full [])])).2 118 [v4]).bind fun r5=>
 (ao (AP ab) (some (ak none r2.2 (.obj true [(.bool false),(.lst none true .full []),(.lst none true .full [])])).2.length) r5.2 76 [v3,r5.1]).bind fun r6=>
 (aA (some 3) r6.2 (.ptr (ak none r2.2 .resv).1 0) r6.1).bind fun m7=>
 (ai (some 3) m7 (.ptr (ak none r2.2 .resv).1 0)).bind fun v8=>
 some (v8,m7):=
(bW ab 100 [a0,a1] m (fn:=f100) (c:=al f100) qdp rfl).trans (by kernel_rfl)
theorem FE(a0:AV)(m:ae):AC ab 118 [a0] m =
 (ef none (some 3) m a0).bind fun r1=>
 (ai (some 3) (ak none r1.2 (.obj true [(.bool false),(.lst none true .full []),(.lst none true .full [])])).2 r1.1).bind fun v2=>
 (ao (AP ab) none (ak none r1.2 (.obj true [(.bool false),(.lst none true .full []),(.lst none true .full [])])).2 71 [v2]).bind fun r3=>
 (aA (some 3) r3.2 r1.1 r3.1).bind fun m4=>
 (aB 0 r1.1).bind fun v5=>
 (ai none m4 v5).bind fun v6=>
 (iI .not v6).bind fun v7=>
 au v7 (
 (aB 1 r1.1).bind fun v8=>
 (ai none m4 v8).bind fun v9=>
 (aY false v9).bind fun v10=>
 (af .other .gtr v10 (.int .i64 0)).bind fun v11=>
 (aB 0 r1.1).bind fun aV=>
 (aA none m4 aV v11).bind fun m13=>
 (ai (some 3) m13 r1.1).bind fun bM=>
 (aA (some 3) m13 (.ptr (ak none r1.2 .resv).1 0) bM).bind fun m15=>
 (ai (some 3) m15 (.ptr (ak none r1.2 .resv).1 0)).bind fun bQ=>
 some (bQ,m15)) (
 (aB 0 r1.1).bind fun bV=>
 (aA none m4 bV (.bool false)).bind fun m18=>
 (ai (some 3) m18 r1.1).bind fun dL=>
 (aA (some 3) m18 (.ptr (ak none r1.2 .resv).1 0) dL).bind fun m20=>
 (ai (some 3) m20 (.ptr (ak none r1.2 .resv).1 0)).bind fun eg=>
 some (eg,m20)):=
(bW ab 118 [a0] m (fn:=f118) (c:=al f118) qdE rfl).trans (by kernel_rfl)
theorem qbV(a0 a1:AV)(m:ae):AC ab 119 [a0,a1] m =
 (ef none (some 3) m a0).bind fun r1=>
 (ef none (some 3) r1.2 a1).bind fun r2=>
 (ai (some 3) (ak none r2.2 (.obj true [(.bool false),(.lst none true .full []),(.lst none true .full [])])).2 r1.1).bind fun v3=>
 (ao (AP ab) (some (ak none r2.2 (.obj true [(.bool false),(.lst none true .full []),(.lst none true .full [])])).2.length) (ak none r2.2 (.obj true [(.bool false),(.lst none true .full []),(.lst none true .full [])])).2 71 [v3]).bind fun r4=>
 (ai (some 3) r4.2 r2.1).bind fun v5=>
 (ao (AP ab) (some (ak none r2.2 (.obj true [(.bool false),(.lst none true .full []),(.lst none true .full [])])).2.length) r4.2 71 [v5]).bind fun r6=>
 (aA (some 3) r6.2 r1.1 r4.1).bind fun m7=>
 (aA (some 3) m7 r2.1 r6.1).bind fun m8=>
 (aB 0 r1.1).bind fun v9=>
 (ai none m8 v9).bind fun v10=>
 (aB 0 r2.1).bind fun v11=>
 (ai none m8 v11).bind fun aV=>
 (af .bl .neq v10 aV).bind fun bL=>
 (aB 1 r1.1).bind fun bM=>
 (ai none m8 bM).bind fun bz=>
 (aB 2 r2.1).bind fun bQ=>
 (ai none m8 bQ).bind fun bV=>
 (ao (AP ab) (some m8.length) m8 72 [bz,bV]).bind fun gi=>
 (aB 2 r1.1).bind fun dL=>
 (ai none gi.2 dL).bind fun v20=>
 (aB 1 r2.1).bind fun eg=>
 (ai none gi.2 eg).bind fun dV=>
 (ao (AP ab) (some m8.length) gi.2 72 [v20,dV]).bind fun jN=>
 (ao (AP ab) (some m8.length) jN.2 69 [bL,gi.1,jN.1]).bind fun kQ=>
 (bg kQ.1 0).bind fun fT=>
 (bg kQ.1 1).bind fun gW=>
 (aA (some 3) kQ.2 (.ptr (ak none r2.2 .resv).1 0) fT).bind fun m27=>
 (ai (some 3) m27 (.ptr (ak none r2.2 .resv).1 0)).bind fun fU=>
 some ((.tup [fU,gW]),m27):=
(bW ab 119 [a0,a1] m (fn:=f119) (c:=al f119) qdF rfl).trans (by kernel_rfl)
end Go.Ab
namespace Go.Ab
open Go.Proofs.Try
theorem Gb{x:NV}(h:pe x.ds=true):decide (x.ds.length=0)=decide (x.v=0):=by
 have:x.ds=an x.v:=yP h;rw[this];exact mI.2 mK
theorem V64{r:RV}{k:Nat}(h:ROk k r):AP ab 64 [r.av]=some (.bool (jl r)):=by
 have e1:=Q3 h.num.fr;have e2:=Q3 h.den.fr;have e3:=Q4 h.num.fr h.den.fr;have hg:=SD h.num.fr h.den.fr;have e4:=V95 hg.fr;have v4:(lK r.num.fr r.den.fr).fr.v=Nat.gcd r.num.v r.den.v:=SE _ _;rw[v4] at e4;have d1:r.num.fr.ds=r.num.ds:=rfl;have d2:r.den.fr.ds=r.den.ds:=rfl;rw[d1] at e1;rw[d2] at e2;refine bT _ _ (qU _) rfl (m:=[cR r]) ?_;have one:∀n:Nat,af .other .eql (.int .u64 n) (.int .u64 1)=some (.bool (decide (n=1))):=fun n=>ve
 have tail:∀m:ae,((some (sW (Nat.gcd r.num.v r.den.v),m)).bind fun oT=>(bg oT.1 0).bind fun gW=>(bg oT.1 1).bind fun gL=>
   au gL ((af .other .eql gW (.int .u64 1)).bind fun fU=>some (fU,oT.2)) (some ((.bool false),oT.2)))=some (.bool (decide (Nat.gcd r.num.v r.den.v=1)),m):=by
  intro m;unfold sW
  split
  .simp only[Nat.reduceAdd,aa,ar,cr,di,bc,dj,dh,bj,ba,bE,b6,cF,cu,cw,ct,cO,dw,dz,cS,cT,cQ,cP,dA,dB,cW,cX,cV,cU,dC,dD,c8,c9,cZ,cY,dE,dF,de,df,dd,dc,dG,dH,bY,bZ,cN,cJ,cL,cK,cg,ck,bB,cH,cG,aR,aX,aK,aZ,bm,bN,aL,bk,bH,dJ,cE,cC,dp,dn,bS,bU,b8,jj,one]
  .rename_i hb;simp only[Nat.reduceAdd,aa,ar,cr,di,bc,dj,dh,bj,ba,bE,b6,cF,cu,cw,ct,cO,dw,dz,cS,cT,cQ,cP,dA,dB,cW,cX,cV,cU,dC,dD,c8,c9,cZ,cY,dE,dF,de,df,dd,dc,dG,dH,bY,bZ,cN,cJ,cL,cK,cg,ck,bB,cH,cG,aR,aX,aK,aZ,bm,bN,aL,bk,bH,dJ,cE,cC,dp,dn,bS,bU,b8,fF];rw[kC (by omega:¬ Nat.gcd r.num.v r.den.v=1)]
 rw[T64];simp only[Nat.reduceAdd,aa,ar,cr,di,bc,dj,dh,bj,ba,bE,b6,cF,cu,cw,ct,cO,dw,dz,cS,cT,cQ,cP,dA,dB,cW,cX,cV,cU,dC,dD,c8,c9,cZ,cY,dE,dF,de,df,dd,dc,dG,dH,bY,bZ,cN,cJ,cL,cK,cg,ck,bB,cH,cG,aR,aX,aK,aZ,bm,bN,aL,bk,bH,dJ,cE,cC,dp,dn,bS,bU,b8,e1];unfold jl
 cases h1:pe r.num.ds with
 | false=>rfl
 | true=>
  simp only[Nat.reduceAdd,aa,ar,cr,di,bc,dj,dh,bj,ba,bE,b6,cF,cu,cw,ct,cO,dw,dz,cS,cT,cQ,cP,dA,dB,cW,cX,cV,cU,dC,dD,c8,c9,cZ,cY,dE,dF,de,df,dd,dc,dG,dH,bY,bZ,cN,cJ,cL,cK,cg,ck,bB,cH,cG,aR,aX,aK,aZ,bm,bN,aL,bk,bH,dJ,cE,cC,dp,dn,bS,bU,b8,gk,fF,e2,ow]
  cases h2:pe r.den.ds with
  | false=>rfl
  | true=>
   simp only[Nat.reduceAdd,aa,ar,cr,di,bc,dj,dh,bj,ba,bE,b6,cF,cu,cw,ct,cO,dw,dz,cS,cT,cQ,cP,dA,dB,cW,cX,cV,cU,dC,dD,c8,c9,cZ,cY,dE,dF,de,df,dd,dc,dG,dH,bY,bZ,cN,cJ,cL,cK,cg,ck,bB,cH,cG,aR,aX,aK,aZ,bm,bN,aL,bk,bH,dJ,cE,cC,dp,dn,bS,bU,b8,gk,fF,fk,mg,ow,Gb h2];rw[aw]
   by_cases h3:r.den.v=0
   .rw[aj h3];simp[h3]
   .rw[ag h3];simp only[Nat.reduceAdd,aa,ar,cr,di,bc,dj,dh,bj,ba,bE,b6,cF,cu,cw,ct,cO,dw,dz,cS,cT,cQ,cP,dA,dB,cW,cX,cV,cU,dC,dD,c8,c9,cZ,cY,dE,dF,de,df,dd,dc,dG,dH,bY,bZ,cN,cJ,cL,cK,cg,ck,bB,cH,cG,aR,aX,aK,aZ,bm,bN,aL,bk,bH,dJ,cE,cC,dp,dn,bS,bU,b8,fk,mg,Gb h1];rw[aw]
    by_cases h4:r.num.v=0
    .rw[aj h4]
     cases hn:r.neg with
     | true=>rw[jj];simp[h4]
     | false=>
      rw[fF];simp only[Nat.reduceAdd,aa,ar,cr,di,bc,dj,dh,bj,ba,bE,b6,cF,cu,cw,ct,cO,dw,dz,cS,cT,cQ,cP,dA,dB,cW,cX,cV,cU,dC,dD,c8,c9,cZ,cY,dE,dF,de,df,dd,dc,dG,dH,bY,bZ,cN,cJ,cL,cK,cg,ck,bB,cH,cG,aR,aX,aK,aZ,bm,bN,aL,bk,bH,dJ,cE,cC,dp,dn,bS,bU,b8,e3,e4];refine (tail _).trans ?_;simp[h3]
    .rw[ag h4];simp only[Nat.reduceAdd,aa,ar,cr,di,bc,dj,dh,bj,ba,bE,b6,cF,cu,cw,ct,cO,dw,dz,cS,cT,cQ,cP,dA,dB,cW,cX,cV,cU,dC,dD,c8,c9,cZ,cY,dE,dF,de,df,dd,dc,dG,dH,bY,bZ,cN,cJ,cL,cK,cg,ck,bB,cH,cG,aR,aX,aK,aZ,bm,bN,aL,bk,bH,dJ,cE,cC,dp,dn,bS,bU,b8,e3,e4];refine (tail _).trans ?_;simp[h3,h4]
theorem FP:AP ab 70 [.int .u64 1]=some (bn 1).av:=FO (n:=1) (by omega)
def jD:RV:=⟨false,jk,bn 1⟩
def gN:RV:=⟨false,bn 1,bn 1⟩
theorem vo(n:Nat):(bn n).z=true->(bn n).ds=[]:=by
 intro h;unfold bn mV at h ⊢
 split at h
 .split<;>first|rfl|(rename_i h1 h2;exact absurd h1 h2)
 .cases h
theorem z8:Can jD 0:=⟨rfl,jK.symm,jd 1,fun _=>rfl,vo 1⟩
theorem Ck:Can gN 1:=⟨rfl,jd 1,jd 1,vo 1,vo 1⟩
theorem uc:jD.fr=jD:=by simp only[jD,RV.fr,gZ];rfl
theorem Hz:gN.fr=gN:=by simp only[gN,RV.fr,gZ]
theorem FM:AP ab 31 []=some jD.av:=by
 refine (bT _ _ (gA jD) (ib _) (m:=[cR jD]) ?_).trans (by rw[uc]);rw[T31];simp only[Nat.reduceAdd,aa,ar,cr,di,bc,dj,dh,bj,ba,bE,b6,cF,cu,cw,ct,cO,dw,dz,cS,cT,cQ,cP,dA,dB,cW,cX,cV,cU,dC,dD,c8,c9,cZ,cY,dE,dF,de,df,dd,dc,dG,dH,bY,bZ,cN,cJ,cL,cK,cg,ck,bB,cH,cG,aR,aX,aK,aZ,bm,bN,aL,bk,bH,dJ,cE,cC,dp,dn,bS,bU,b8,FP]
 rfl
theorem Km:AP ab 28 []=some gN.av:=by
 refine (bT _ _ (gA gN) (ib _) (m:=[cR gN]) ?_).trans (by rw[Hz]);rw[T28];simp only[Nat.reduceAdd,aa,ar,cr,di,bc,dj,dh,bj,ba,bE,b6,cF,cu,cw,ct,cO,dw,dz,cS,cT,cQ,cP,dA,dB,cW,cX,cV,cU,dC,dD,c8,c9,cZ,cY,dE,dF,de,df,dd,dc,dG,dH,bY,bZ,cN,cJ,cL,cK,cg,ck,bB,cH,cG,aR,aX,aK,aZ,bm,bN,aL,bk,bH,dJ,cE,cC,dp,dn,bS,bU,b8,FP]
 rfl
theorem Gw(k:Nat):af .other .eql (.int .i64 k) (.int .i64 0)=some (.bool (decide (k=0))):=mg
theorem FN{x y:NV}(neg:Bool)(hx:NOk x)(hy:NOk y)(lx:(an x.v).length<2^38)(ly:(an y.v).length<2^38):(y.v=0/\AP ab 69 [.bool neg,x.av,y.av]=some (.tup [zR.av,.int .i64 31])) \/
  (y.v≠0/\∃r:RV,AP ab 69 [.bool neg,x.av,y.av]=some (.tup [r.av,.int .i64 0])/\Can r (ew neg x.v y.v)/\r.fr=r):=by
 obtain ⟨kb,e0,e0'⟩:=QE hy.fr;have e1:=Ks hx.fr hy.fr lx ly;have v1:x.fr.v=x.v:=rfl;have v2:y.fr.v=y.v:=rfl;rw[v1,v2] at e1;rw[v2] at e0'
 have lg:(an (Nat.gcd x.v y.v)).length<2^38:=by
  by_cases h0:x.v=0
  .rw[h0,Nat.gcd_zero_left];exact ly
  .exact jG (kD (Nat.gcd_le_left _ (na h0))) lx
 have hg:NOk (bn (Nat.gcd x.v y.v)):=fw (by omega);have e3:=FI hx.fr hg (by rw[v1];omega) (by rw[dZ];omega);have e4:=FI hy.fr hg (by rw[v2];omega) (by rw[dZ];omega)
 by_cases h0:y.v=0
 .refine .inl ⟨h0,bT _ _ (uF zR (gH _ _)) rfl (m:=[cR zR]) ?_⟩;rw[FG];simp only[Nat.reduceAdd,aa,ar,cr,di,bc,dj,dh,bj,ba,bE,b6,cF,cu,cw,ct,cO,dw,dz,cS,cT,cQ,cP,dA,dB,cW,cX,cV,cU,dC,dD,c8,c9,cZ,cY,dE,dF,de,df,dd,dc,dG,dH,bY,bZ,cN,cJ,cL,cK,cg,ck,bB,cH,cG,aR,aX,aK,aZ,bm,bN,aL,bk,bH,dJ,cE,cC,dp,dn,bS,bU,b8,e0,Gw,aw];rw[aj (e0'.2 h0)]
 .refine .inr ⟨h0,?_⟩
  have yj:Nat.gcd x.v y.v≠0:=by
   have:=Nat.gcd_pos_of_pos_right x.v (na h0);omega
  unfold Gn at e3 e4;rw[dZ,ag yj,v1] at e3;rw[dZ,ag yj,v2] at e4
  refine ⟨⟨neg&&decide (x.v/Nat.gcd x.v y.v>0),bn (x.v/Nat.gcd x.v y.v),bn (y.v/Nat.gcd x.v y.v)⟩,?_,⟨(DJ h0).symm,?_,?_,vo _,vo _⟩,?_⟩
  .refine (bT _ _ (uF ⟨neg&&decide (x.v/Nat.gcd x.v y.v>0),bn (x.v/Nat.gcd x.v y.v),bn (y.v/Nat.gcd x.v y.v)⟩ (gH .i64 0)) rfl (m:=[cR ⟨neg&&decide (x.v/Nat.gcd x.v y.v>0),bn (x.v/Nat.gcd x.v y.v),bn (y.v/Nat.gcd x.v y.v)⟩]) ?_).trans (by simp only[RV.fr,gZ]);rw[FG];simp only[Nat.reduceAdd,aa,ar,cr,di,bc,dj,dh,bj,ba,bE,b6,cF,cu,cw,ct,cO,dw,dz,cS,cT,cQ,cP,dA,dB,cW,cX,cV,cU,dC,dD,c8,c9,cZ,cY,dE,dF,de,df,dd,dc,dG,dH,bY,bZ,cN,cJ,cL,cK,cg,ck,bB,cH,cG,aR,aX,aK,aZ,bm,bN,aL,bk,bH,dJ,cE,cC,dp,dn,bS,bU,b8,e0,Gw,aw];rw[ag (fun h=>h0 (e0'.1 h))];simp only[Nat.reduceAdd,aa,ar,cr,di,bc,dj,dh,bj,ba,bE,b6,cF,cu,cw,ct,cO,dw,dz,cS,cT,cQ,cP,dA,dB,cW,cX,cV,cU,dC,dD,c8,c9,cZ,cY,dE,dF,de,df,dd,dc,dG,dH,bY,bZ,cN,cJ,cL,cK,cg,ck,bB,cH,cG,aR,aX,aK,aZ,bm,bN,aL,bk,bH,dJ,cE,cC,dp,dn,bS,bU,b8,e1,gZ,e3,e4,oo,sF]
   have hlen:decide ((an (x.v/Nat.gcd x.v y.v)).length>0)=decide (x.v/Nat.gcd x.v y.v>0):=mI.2 (by
    constructor
    .intro h;apply na;intro e;rw[e,jK] at h;simp at h
    .intro h;have:(an (x.v/Nat.gcd x.v y.v)).length≠0:=fun e=>by have:=mK.1 e;omega
     omega)
   cases neg with
   | false=>rfl
   | true=>
    rw[jj,hlen];simp only[Nat.reduceAdd,aa,ar,cr,di,bc,dj,dh,bj,ba,bE,b6,cF,cu,cw,ct,cO,dw,dz,cS,cT,cQ,cP,dA,dB,cW,cX,cV,cU,dC,dD,c8,c9,cZ,cY,dE,dF,de,df,dd,dc,dG,dH,bY,bZ,cN,cJ,cL,cK,cg,ck,bB,cH,cG,aR,aX,aK,aZ,bm,bN,aL,bk,bH,dJ,cE,cC,dp,dn,bS,bU,b8,ow]
  .rw[AW h0];exact jd _
  .rw[AX h0];exact jd _
  .simp only[RV.fr,gZ]
theorem tm{r:RV}{k:Nat}(h:ROk k r)(hk:k<2^38):∃s:RV,AP ab 71 [r.av]=some s.av/\Can s r.q/\s.fr=s:=by
 have ln:=b7 h.num.v_len h.ln;have ld:=b7 h.den.v_len h.ld
 rcases FN r.neg h.num.fr h.den.fr (by show (an r.num.v).length<_;omega) (by show (an r.den.v).length<_;omega) with ⟨h0,h1⟩|⟨h0,s,h1,h2,h3⟩
 .refine ⟨jD,(bT _ _ (gA jD) (ib _) (m:=[cR r,cR jD,cR zR]) ?_).trans (by rw[uc]),?_,uc⟩
  .rw[FH];simp only[Nat.reduceAdd,aa,ar,cr,di,bc,dj,dh,bj,ba,bE,b6,cF,cu,cw,ct,cO,dw,dz,cS,cT,cQ,cP,dA,dB,cW,cX,cV,cU,dC,dD,c8,c9,cZ,cY,dE,dF,de,df,dd,dc,dG,dH,bY,bZ,cN,cJ,cL,cK,cg,ck,bB,cH,cG,aR,aX,aK,aZ,bm,bN,aL,bk,bH,dJ,cE,cC,dp,dn,bS,bU,b8,h1,iL,aw];rw[aj (by decide)];simp only[Nat.reduceAdd,aa,ar,cr,di,bc,dj,dh,bj,ba,bE,b6,cF,cu,cw,ct,cO,dw,dz,cS,cT,cQ,cP,dA,dB,cW,cX,cV,cU,dC,dD,c8,c9,cZ,cY,dE,dF,de,df,dd,dc,dG,dH,bY,bZ,cN,cJ,cL,cK,cg,ck,bB,cH,cG,aR,aX,aK,aZ,bm,bN,aL,bk,bH,dJ,cE,cC,dp,dn,bS,bU,b8,FM]
  .have:r.den.v=0:=h0;rw[RV.q,this,yY];exact z8
 .refine ⟨s,(bT _ _ (gA s) (ib _) (m:=[cR r,cR s,cR s]) ?_).trans (by rw[h3]),h2,h3⟩;rw[FH];simp only[Nat.reduceAdd,aa,ar,cr,di,bc,dj,dh,bj,ba,bE,b6,cF,cu,cw,ct,cO,dw,dz,cS,cT,cQ,cP,dA,dB,cW,cX,cV,cU,dC,dD,c8,c9,cZ,cY,dE,dF,de,df,dd,dc,dG,dH,bY,bZ,cN,cJ,cL,cK,cg,ck,bB,cH,cG,aR,aX,aK,aZ,bm,bN,aL,bk,bH,dJ,cE,cC,dp,dn,bS,bU,b8,h1,iL,aw];rw[ag (by decide)]
end Go.Ab
namespace Go.Ab
open Go.Proofs.Try
def wU(q:Rat):Int:=if q=0 then 0 else if q.num<0 then -1 else 1
theorem qjm(q:Rat):wU q=0↔q=0:=by
 unfold wU
 constructor
 .intro h
  split at h
  .assumption
  .split at h<;>omega
 .intro h;rw[aj h]
theorem Can.len0{r:RV}{q:Rat}(h:Can r q):r.num.ds.length=0↔q=0:=by
 rw[h.num,mK,Int.natAbs_eq_zero,Rat.num_eq_zero]
theorem FQ{r:RV}{k:Nat}(h:ROk k r)(hk:k<2^38):AP ab 86 [r.av]=some (.int .i64 (wU r.q)):=by
 obtain ⟨s,e1,e2,e3⟩:=tm h.fr hk;rw[RV.fr_q] at e2;refine bT _ _ (eK _ _) rfl (m:=[cR s]) ?_;rw[T86];simp only[Nat.reduceAdd,aa,ar,cr,di,bc,dj,dh,bj,ba,bE,b6,cF,cu,cw,ct,cO,dw,dz,cS,cT,cQ,cP,dA,dB,cW,cX,cV,cU,dC,dD,c8,c9,cZ,cY,dE,dF,de,df,dd,dc,dG,dH,bY,bZ,cN,cJ,cL,cK,cg,ck,bB,cH,cG,aR,aX,aK,aZ,bm,bN,aL,bk,bH,dJ,cE,cC,dp,dn,bS,bU,b8,e1,fk,mg,aw];unfold wU
 by_cases h0:r.q=0
 .rw[aj (e2.len0.2 h0),aj h0]
 .rw[ag (fun hh=>h0 (e2.len0.1 hh)),ag h0,e2.neg,aw];split<;>rfl
theorem qci{r:RV}{k:Nat}(h:ROk k r)(hk:k<2^38):∃s:RV,AP ab 118 [r.av]=some s.av/\Can s (-r.q)/\s.fr=s:=by
 obtain ⟨s,e1,e2,e3⟩:=tm h.fr hk;rw[RV.fr_q] at e2
 have hlen:∀b:Bool,decide (s.num.ds.length>0)=decide (r.q≠0):=by
  intro b;refine mI.2 ?_;have:=e2.len0
  constructor
  .intro h1 h2;have:=this.2 h2;omega
  .intro h1;have:s.num.ds.length≠0:=fun e=>h1 (this.1 e);omega
 have eM:s.num.fr=s.num:=fE RV.num e3;have eS:s.den.fr=s.den:=fE RV.den e3
 have hc:∀b:Bool,b=decide ((-r.q).num<0)->Can ⟨b,s.num,s.den⟩ (-r.q):=by
  intro b hb
  refine ⟨hb,?_,?_,e2.numz,e2.denz⟩
  .rw[Rat.neg_num,Int.natAbs_neg];exact e2.num
  .rw[Rat.neg_den];exact e2.den
 cases hn:s.neg with
 | true=>
  have hq:r.q.num<0:=by have:=e2.neg;rw[hn] at this;exact yP this.symm
  refine ⟨⟨false,s.num,s.den⟩,(bT _ _ (gA ⟨false,s.num,s.den⟩) (ib _) (m:=[cR ⟨false,s.num,s.den⟩,cR ⟨false,s.num,s.den⟩]) ?_).trans (by simp only[RV.fr,eM,eS]),hc false ?_,by simp only[RV.fr,eM,eS]⟩
  .rw[FE];simp only[Nat.reduceAdd,aa,ar,cr,di,bc,dj,dh,bj,ba,bE,b6,cF,cu,cw,ct,cO,dw,dz,cS,cT,cQ,cP,dA,dB,cW,cX,cV,cU,dC,dD,c8,c9,cZ,cY,dE,dF,de,df,dd,dc,dG,dH,bY,bZ,cN,cJ,cL,cK,cg,ck,bB,cH,cG,aR,aX,aK,aZ,bm,bN,aL,bk,bH,dJ,cE,cC,dp,dn,bS,bU,b8,e1,hn,gk,fF]
  .rw[Rat.neg_num];exact (kC (by omega)).symm
 | false=>
  have hq:¬ r.q.num<0:=by have:=e2.neg;rw[hn] at this;exact of_decide_eq_false this.symm
  refine ⟨⟨decide (r.q≠0),s.num,s.den⟩,(bT _ _ (gA ⟨decide (r.q≠0),s.num,s.den⟩) (ib _) (m:=[cR ⟨decide (r.q≠0),s.num,s.den⟩,cR ⟨decide (r.q≠0),s.num,s.den⟩]) ?_).trans (by simp only[RV.fr,eM,eS]),hc _ ?_,by simp only[RV.fr,eM,eS]⟩
  .rw[FE];simp only[Nat.reduceAdd,aa,ar,cr,di,bc,dj,dh,bj,ba,bE,b6,cF,cu,cw,ct,cO,dw,dz,cS,cT,cQ,cP,dA,dB,cW,cX,cV,cU,dC,dD,c8,c9,cZ,cY,dE,dF,de,df,dd,dc,dG,dH,bY,bZ,cN,cJ,cL,cK,cg,ck,bB,cH,cG,aR,aX,aK,aZ,bm,bN,aL,bk,bH,dJ,cE,cC,dp,dn,bS,bU,b8,e1,hn,mZ,jj,fk,sF,hlen true]
  .rw[Rat.neg_num];refine mI.2 ?_;have h0:r.q=0↔r.q.num=0:=Rat.num_eq_zero.symm
   constructor
   .intro h1;have:r.q.num≠0:=fun e=>h1 (h0.2 e);omega
   .intro h1 h2;have:=h0.1 h2;omega
theorem V76{a b:RV}{k:Nat}(ha:ROk k a)(hb:ROk k b)(bu:1<=k)(hk:k<2^36):∃s:RV,AP ab 76 [a.av,b.av]=some s.av/\Can s (a.q+b.q)/\s.fr=s:=by
 obtain ⟨s,e1,e2,e3⟩:=tm ha.fr (by omega);obtain ⟨t,f1,f2,f3⟩:=tm hb.fr (by omega);rw[RV.fr_q] at e2 f2;have os:=e2.ok (ha.bd bu) (by omega);have ot:=f2.ok (hb.bd bu) (by omega);have eM:s.num.fr=s.num:=fE RV.num e3;have eS:s.den.fr=s.den:=fE RV.den e3;have mR:t.num.fr=t.num:=fE RV.num f3;have oN:t.den.fr=t.den:=fE RV.den f3;have lx:=kZ (b7 os.num.v_len os.ln) (b7 ot.den.v_len ot.ld);have ly:=kZ (b7 ot.num.v_len ot.ln) (b7 os.den.v_len os.ld);have ld:=kZ (b7 os.den.v_len os.ld) (b7 ot.den.v_len ot.ld);have lxy:=MB lx ly;have g1:=tn os.num ot.den;have g2:=tn ot.num os.den;have g3:=tn os.den ot.den;have ox:NOk (bn (s.num.v*t.den.v)):=fw (by omega);have oy:NOk (bn (t.num.v*s.den.v)):=fw (by omega);have od:NOk (bn (s.den.v*t.den.v)):=fw (by omega);have g4:=QG ox oy (gZ _) (gZ _);have g5:=xD ox oy;have g6:=B4 ox oy (gZ _) (gZ _);have g7:=B4 oy ox (gZ _) (gZ _);rw[dZ,dZ] at g4 g5;unfold Bf at g6 g7;rw[dZ,dZ] at g6 g7;have qX:s.den.v*t.den.v≠0:=Nat.mul_ne_zero e2.den0 f2.den0
 have su:a.q+b.q=mkRat (fA s.neg (s.num.v*t.den.v)+fA t.neg (t.num.v*s.den.v)) (s.den.v*t.den.v):=by
  rw[<- e2.q,<- f2.q];exact Nm e2.den0 f2.den0
 have fin:∀(neg:Bool) (n:Nat),(an n).length<2^38->mkRat (fA s.neg (s.num.v*t.den.v)+fA t.neg (t.num.v*s.den.v)) (s.den.v*t.den.v)=ew neg n (s.den.v*t.den.v)->∃r:RV,AP ab 69 [.bool neg,(bn n).av,(bn (s.den.v*t.den.v)).av]=some (.tup [r.av,.int .i64 0])/\Can r (a.q+b.q)/\r.fr=r:=by
  intro neg n hn he
  rcases FN neg (fw (n:=n) (by omega)) od (by rw[dZ];exact hn) (by rw[dZ];omega) with ⟨h0,_⟩|⟨_,r,h1,h2,h3⟩
  .rw[dZ] at h0;exact absurd h0 qX
  .rw[dZ,dZ,<- he,<- su] at h2;exact ⟨r,h1,h2,h3⟩
 by_cases hn:s.neg=t.neg
 .obtain ⟨r,h1,h2,h3⟩:=fin s.neg (s.num.v*t.den.v+t.num.v*s.den.v) (by omega) (by rw[<- hn,Wl];rfl);refine ⟨r,(bT _ _ (gA r) (ib _) (m:=[cR s,cR t,cR r,cR r]) ?_).trans (by rw[h3]),h2,h3⟩;rw[Kj];simp only[Nat.reduceAdd,aa,ar,cr,di,bc,dj,dh,bj,ba,bE,b6,cF,cu,cw,ct,cO,dw,dz,cS,cT,cQ,cP,dA,dB,cW,cX,cV,cU,dC,dD,c8,c9,cZ,cY,dE,dF,de,df,dd,dc,dG,dH,bY,bZ,cN,cJ,cL,cK,cg,ck,bB,cH,cG,aR,aX,aK,aZ,bm,bN,aL,bk,bH,dJ,cE,cC,dp,dn,bS,bU,b8,e1,f1,eM,eS,mR,oN,g1,g2,g3,gZ,g4,hn,bne_self_eq_false,fF];rw[hn] at h1;simp only[Nat.reduceAdd,aa,ar,cr,di,bc,dj,dh,bj,ba,bE,b6,cF,cu,cw,ct,cO,dw,dz,cS,cT,cQ,cP,dA,dB,cW,cX,cV,cU,dC,dD,c8,c9,cZ,cY,dE,dF,de,df,dd,dc,dG,dH,bY,bZ,cN,cJ,cL,cK,cg,ck,bB,cH,cG,aR,aX,aK,aZ,bm,bN,aL,bk,bH,dJ,cE,cC,dp,dn,bS,bU,b8,h1]
 .have aE:(s.neg != t.neg)=true:=by simpa using hn
  by_cases aG:s.num.v*t.den.v<t.num.v*s.den.v
  .obtain ⟨r,h1,h2,h3⟩:=fin t.neg (t.num.v*s.den.v-s.num.v*t.den.v) (jG (kD (Nat.sub_le _ _)) (by omega)) (by rw[Wk hn aG];rfl);refine ⟨r,(bT _ _ (gA r) (ib _) (m:=[cR s,cR t,cR r,cR r]) ?_).trans (by rw[h3]),h2,h3⟩;have hc:¬ gS (s.num.v*t.den.v) (t.num.v*s.den.v)≥0:=by unfold gS;rw[aj aG];omega
   rw[ag (by omega)] at g7;rw[Kj];simp only[Nat.reduceAdd,aa,ar,cr,di,bc,dj,dh,bj,ba,bE,b6,cF,cu,cw,ct,cO,dw,dz,cS,cT,cQ,cP,dA,dB,cW,cX,cV,cU,dC,dD,c8,c9,cZ,cY,dE,dF,de,df,dd,dc,dG,dH,bY,bZ,cN,cJ,cL,cK,cg,ck,bB,cH,cG,aR,aX,aK,aZ,bm,bN,aL,bk,bH,dJ,cE,cC,dp,dn,bS,bU,b8,e1,f1,eM,eS,mR,oN,g1,g2,g3,gZ,g4,aE,jj,g5,o9,aw];rw[ag hc];simp only[Nat.reduceAdd,aa,ar,cr,di,bc,dj,dh,bj,ba,bE,b6,cF,cu,cw,ct,cO,dw,dz,cS,cT,cQ,cP,dA,dB,cW,cX,cV,cU,dC,dD,c8,c9,cZ,cY,dE,dF,de,df,dd,dc,dG,dH,bY,bZ,cN,cJ,cL,cK,cg,ck,bB,cH,cG,aR,aX,aK,aZ,bm,bN,aL,bk,bH,dJ,cE,cC,dp,dn,bS,bU,b8,gZ,g7,h1]
  .obtain ⟨r,h1,h2,h3⟩:=fin s.neg (s.num.v*t.den.v-t.num.v*s.den.v) (jG (kD (Nat.sub_le _ _)) (by omega)) (by rw[Wj hn aG];rfl);refine ⟨r,(bT _ _ (gA r) (ib _) (m:=[cR s,cR t,cR r,cR r]) ?_).trans (by rw[h3]),h2,h3⟩;have hc:gS (s.num.v*t.den.v) (t.num.v*s.den.v)≥0:=by unfold gS;rw[ag aG];split<;>omega
   rw[ag aG] at g6;rw[Kj];simp only[Nat.reduceAdd,aa,ar,cr,di,bc,dj,dh,bj,ba,bE,b6,cF,cu,cw,ct,cO,dw,dz,cS,cT,cQ,cP,dA,dB,cW,cX,cV,cU,dC,dD,c8,c9,cZ,cY,dE,dF,de,df,dd,dc,dG,dH,bY,bZ,cN,cJ,cL,cK,cg,ck,bB,cH,cG,aR,aX,aK,aZ,bm,bN,aL,bk,bH,dJ,cE,cC,dp,dn,bS,bU,b8,e1,f1,eM,eS,mR,oN,g1,g2,g3,gZ,g4,aE,jj,g5,o9,aw];rw[aj hc];simp only[Nat.reduceAdd,aa,ar,cr,di,bc,dj,dh,bj,ba,bE,b6,cF,cu,cw,ct,cO,dw,dz,cS,cT,cQ,cP,dA,dB,cW,cX,cV,cU,dC,dD,c8,c9,cZ,cY,dE,dF,de,df,dd,dc,dG,dH,bY,bZ,cN,cJ,cL,cK,cg,ck,bB,cH,cG,aR,aX,aK,aZ,bm,bN,aL,bk,bH,dJ,cE,cC,dp,dn,bS,bU,b8,gZ,g6,h1]
theorem QD{a b:RV}{k:Nat}(ha:ROk k a)(hb:ROk k b)(bu:1<=k)(hk:k<2^36):∃s:RV,AP ab 100 [a.av,b.av]=some s.av/\Can s (a.q-b.q)/\s.fr=s:=by
 obtain ⟨t,f1,f2,f3⟩:=qci hb.fr (by omega);rw[RV.fr_q] at f2
 have bt:Bd k (-b.q):=by
  have:=hb.bd bu
  refine ⟨?_,?_⟩
  .rw[Rat.neg_num,Int.natAbs_neg];exact this.1
  .rw[Rat.neg_den];exact this.2
 have ot:=f2.ok bt (by omega);obtain ⟨s,e1,e2,e3⟩:=V76 ha.fr ot bu hk;rw[f2.q,RV.fr_q,<- Rat.sub_eq_add_neg] at e2;refine ⟨s,(bT _ _ (gA s) (ib _) (m:=[cR a,cR b,cR s]) ?_).trans (by rw[e3]),e2,e3⟩;rw[qbI];simp only[Nat.reduceAdd,aa,ar,cr,di,bc,dj,dh,bj,ba,bE,b6,cF,cu,cw,ct,cO,dw,dz,cS,cT,cQ,cP,dA,dB,cW,cX,cV,cU,dC,dD,c8,c9,cZ,cY,dE,dF,de,df,dd,dc,dG,dH,bY,bZ,cN,cJ,cL,cK,cg,ck,bB,cH,cG,aR,aX,aK,aZ,bm,bN,aL,bk,bH,dJ,cE,cC,dp,dn,bS,bU,b8,f1,f3,e1]
theorem V66{a b:RV}{k:Nat}(ha:ROk k a)(hb:ROk k b)(bu:1<=k)(hk:k<2^36):AP ab 66 [a.av,b.av]=some (.int .i64 (wU (a.q-b.q))):=by
 obtain ⟨s,e1,e2,e3⟩:=QD ha.fr hb.fr bu hk;rw[RV.fr_q,RV.fr_q] at e2
 have bs:=Oe (ha.bd bu) (q:=-b.q) (l:=k) (by
  have:=hb.bd bu
  refine ⟨?_,?_⟩
  .rw[Rat.neg_num,Int.natAbs_neg];exact this.1
  .rw[Rat.neg_den];exact this.2) bu
 rw[<- Rat.sub_eq_add_neg] at bs;have os:=e2.ok bs (by omega);have e4:=FQ os (by omega);rw[e2.q] at e4;refine bT _ _ (eK _ _) rfl (m:=[cR a,cR b]) ?_;rw[T66];simp only[Nat.reduceAdd,aa,ar,cr,di,bc,dj,dh,bj,ba,bE,b6,cF,cu,cw,ct,cO,dw,dz,cS,cT,cQ,cP,dA,dB,cW,cX,cV,cU,dC,dD,c8,c9,cZ,cY,dE,dF,de,df,dd,dc,dG,dH,bY,bZ,cN,cJ,cL,cK,cg,ck,bB,cH,cG,aR,aX,aK,aZ,bm,bN,aL,bk,bH,dJ,cE,cC,dp,dn,bS,bU,b8,e1,e3,e4]
theorem QR{a b:RV}{k:Nat}(ha:ROk k a)(hb:ROk k b)(bu:1<=k)(hk:k<2^36):AP ab 23 [a.av,b.av]=some (.bool (decide (a.q=b.q))):=by
 have e1:=V66 ha.fr hb.fr bu hk;rw[RV.fr_q,RV.fr_q] at e1;refine bT _ _ (qU _) rfl (m:=[cR a,cR b]) ?_;rw[T23];simp only[Nat.reduceAdd,aa,ar,cr,di,bc,dj,dh,bj,ba,bE,b6,cF,cu,cw,ct,cO,dw,dz,cS,cT,cQ,cP,dA,dB,cW,cX,cV,cU,dC,dD,c8,c9,cZ,cY,dE,dF,de,df,dd,dc,dG,dH,bY,bZ,cN,cJ,cL,cK,cg,ck,bB,cH,cG,aR,aX,aK,aZ,bm,bN,aL,bk,bH,dJ,cE,cC,dp,dn,bS,bU,b8,e1,iY];congr 3;refine mI.2 ?_;rw[qjm]
 constructor
 .intro h;have:=Rat.sub_add_cancel (a:=a.q) (b:=b.q);rw[h,Rat.zero_add] at this;exact this.symm
 .intro h;rw[h,Rat.sub_self]
end Go.Ab
namespace Go.Ab
open Go.Proofs.Try
theorem V65{r:RV}{k:Nat}(h:ROk k r)(hk:k<2^38):AP ab 65 [r.av]=some (.bool (jl r)):=by
 have ln:=b7 h.num.v_len h.ln;have ld:=b7 h.den.v_len h.ld;have e1:=Q5 h.num.fr;have e2:=Q5 h.den.fr;have e3:=Ks h.num.fr h.den.fr (by show (an r.num.v).length<_;omega) (by show (an r.den.v).length<_;omega);have v1:r.num.fr.v=r.num.v:=rfl;have v2:r.den.fr.v=r.den.v:=rfl;rw[v1,v2] at e3;have lg:(an (Nat.gcd r.num.v r.den.v)).length<2^40:=R8 (by omega) (by omega);have o1:NOk (bn 1):=fw qhD;have e5:=xD (fw lg) o1;have e6:=xD h.den.fr o1;rw[dZ,dZ] at e5;rw[dZ,v2] at e6;have d1:r.num.fr.ds=r.num.ds:=rfl;have d2:r.den.fr.ds=r.den.ds:=rfl;rw[d1] at e1;rw[d2] at e2
 have cm:∀n:Nat,(af .other .eql (.int .i64 (gS n 1)) (.int .i64 0))=some (.bool (decide (n=1))):=by
  intro n;rw[iY];congr 2;refine mI.2 ?_;unfold gS;constructor<;>intro h<;>(repeat' split at *)<;>omega
 refine bT _ _ (qU _) rfl (m:=[cR r]) ?_;rw[T65];simp only[Nat.reduceAdd,aa,ar,cr,di,bc,dj,dh,bj,ba,bE,b6,cF,cu,cw,ct,cO,dw,dz,cS,cT,cQ,cP,dA,dB,cW,cX,cV,cU,dC,dD,c8,c9,cZ,cY,dE,dF,de,df,dd,dc,dG,dH,bY,bZ,cN,cJ,cL,cK,cg,ck,bB,cH,cG,aR,aX,aK,aZ,bm,bN,aL,bk,bH,dJ,cE,cC,dp,dn,bS,bU,b8,e1];unfold jl
 cases h1:pe r.num.ds with
 | false=>rfl
 | true=>
  simp only[Nat.reduceAdd,aa,ar,cr,di,bc,dj,dh,bj,ba,bE,b6,cF,cu,cw,ct,cO,dw,dz,cS,cT,cQ,cP,dA,dB,cW,cX,cV,cU,dC,dD,c8,c9,cZ,cY,dE,dF,de,df,dd,dc,dG,dH,bY,bZ,cN,cJ,cL,cK,cg,ck,bB,cH,cG,aR,aX,aK,aZ,bm,bN,aL,bk,bH,dJ,cE,cC,dp,dn,bS,bU,b8,gk,fF,e2,ow]
  cases h2:pe r.den.ds with
  | false=>rfl
  | true=>
   simp only[Nat.reduceAdd,aa,ar,cr,di,bc,dj,dh,bj,ba,bE,b6,cF,cu,cw,ct,cO,dw,dz,cS,cT,cQ,cP,dA,dB,cW,cX,cV,cU,dC,dD,c8,c9,cZ,cY,dE,dF,de,df,dd,dc,dG,dH,bY,bZ,cN,cJ,cL,cK,cg,ck,bB,cH,cG,aR,aX,aK,aZ,bm,bN,aL,bk,bH,dJ,cE,cC,dp,dn,bS,bU,b8,gk,fF,fk,mg,ow,Gb h2];rw[aw]
   by_cases h3:r.den.v=0
   .rw[aj h3];simp[h3]
   .rw[ag h3];simp only[Nat.reduceAdd,aa,ar,cr,di,bc,dj,dh,bj,ba,bE,b6,cF,cu,cw,ct,cO,dw,dz,cS,cT,cQ,cP,dA,dB,cW,cX,cV,cU,dC,dD,c8,c9,cZ,cY,dE,dF,de,df,dd,dc,dG,dH,bY,bZ,cN,cJ,cL,cK,cg,ck,bB,cH,cG,aR,aX,aK,aZ,bm,bN,aL,bk,bH,dJ,cE,cC,dp,dn,bS,bU,b8,fk,mg,Gb h1];rw[aw]
    by_cases h4:r.num.v=0
    .rw[aj h4]
     cases hn:r.neg with
     | true=>simp only[Nat.reduceAdd,aa,ar,cr,di,bc,dj,dh,bj,ba,bE,b6,cF,cu,cw,ct,cO,dw,dz,cS,cT,cQ,cP,dA,dB,cW,cX,cV,cU,dC,dD,c8,c9,cZ,cY,dE,dF,de,df,dd,dc,dG,dH,bY,bZ,cN,cJ,cL,cK,cg,ck,bB,cH,cG,aR,aX,aK,aZ,bm,bN,aL,bk,bH,dJ,cE,cC,dp,dn,bS,bU,b8,gk,fF];simp[h4]
     | false=>
      simp only[Nat.reduceAdd,aa,ar,cr,di,bc,dj,dh,bj,ba,bE,b6,cF,cu,cw,ct,cO,dw,dz,cS,cT,cQ,cP,dA,dB,cW,cX,cV,cU,dC,dD,c8,c9,cZ,cY,dE,dF,de,df,dd,dc,dG,dH,bY,bZ,cN,cJ,cL,cK,cg,ck,bB,cH,cG,aR,aX,aK,aZ,bm,bN,aL,bk,bH,dJ,cE,cC,dp,dn,bS,bU,b8,mZ,jj,FP,gZ,e6,cm];simp[h3,h4]
    .rw[ag h4];simp only[Nat.reduceAdd,aa,ar,cr,di,bc,dj,dh,bj,ba,bE,b6,cF,cu,cw,ct,cO,dw,dz,cS,cT,cQ,cP,dA,dB,cW,cX,cV,cU,dC,dD,c8,c9,cZ,cY,dE,dF,de,df,dd,dc,dG,dH,bY,bZ,cN,cJ,cL,cK,cg,ck,bB,cH,cG,aR,aX,aK,aZ,bm,bN,aL,bk,bH,dJ,cE,cC,dp,dn,bS,bU,b8,FP,e3,gZ,e5,cm];simp[h3,h4]
theorem V29{a b:RV}{k:Nat}(ha:ROk k a)(hb:ROk k b)(bu:1<=k)(hk:k<2^36):∃s:RV,AP ab 29 [a.av,b.av]=some s.av/\Can s (a.q*b.q)/\s.fr=s:=by
 obtain ⟨s,e1,e2,e3⟩:=tm ha.fr (by omega);obtain ⟨t,f1,f2,f3⟩:=tm hb.fr (by omega);rw[RV.fr_q] at e2 f2;have os:=e2.ok (ha.bd bu) (by omega);have ot:=f2.ok (hb.bd bu) (by omega);have eM:s.num.fr=s.num:=fE RV.num e3;have eS:s.den.fr=s.den:=fE RV.den e3;have mR:t.num.fr=t.num:=fE RV.num f3;have oN:t.den.fr=t.den:=fE RV.den f3;have ln:=kZ (b7 os.num.v_len os.ln) (b7 ot.num.v_len ot.ln);have ld:=kZ (b7 os.den.v_len os.ld) (b7 ot.den.v_len ot.ld);have g1:=tn os.num ot.num;have g3:=tn os.den ot.den;have on:NOk (bn (s.num.v*t.num.v)):=fw (by omega);have od:NOk (bn (s.den.v*t.den.v)):=fw (by omega);have qX:s.den.v*t.den.v≠0:=Nat.mul_ne_zero e2.den0 f2.den0;have hq:ew (s.neg != t.neg) (s.num.v*t.num.v) (s.den.v*t.den.v)=a.q*b.q:=by rw[<- DI,<- e2.q,<- f2.q];rfl
 rcases FN (s.neg != t.neg) on od (by rw[dZ];omega) (by rw[dZ];omega) with ⟨h0,_⟩|⟨_,r,h1,h2,h3⟩
 .rw[dZ] at h0;exact absurd h0 qX
 .rw[dZ,dZ,hq] at h2;refine ⟨r,(bT _ _ (gA r) (ib _) (m:=[cR s,cR t,cR r,cR r]) ?_).trans (by rw[h3]),h2,h3⟩;rw[Qr];simp only[Nat.reduceAdd,aa,ar,cr,di,bc,dj,dh,bj,ba,bE,b6,cF,cu,cw,ct,cO,dw,dz,cS,cT,cQ,cP,dA,dB,cW,cX,cV,cU,dC,dD,c8,c9,cZ,cY,dE,dF,de,df,dd,dc,dG,dH,bY,bZ,cN,cJ,cL,cK,cg,ck,bB,cH,cG,aR,aX,aK,aZ,bm,bN,aL,bk,bH,dJ,cE,cC,dp,dn,bS,bU,b8,e1,f1,eM,eS,mR,oN,g1,g3,gZ,h1]
theorem QY{a b:RV}{k:Nat}(ha:ROk k a)(hb:ROk k b)(bu:1<=k)(hk:k<2^36):∃s:RV,AP ab 78 [a.av,b.av]=some s.av/\Can s (a.q*b.q)/\s.fr=s:=by
 have g1:=xB ha.num.fr hb.num.fr;have g2:=xB ha.den.fr hb.den.fr;have v1:a.num.fr.v=a.num.v:=rfl;have v2:a.den.fr.v=a.den.v:=rfl;have v3:b.num.fr.v=b.num.v:=rfl;have v4:b.den.fr.v=b.den.v:=rfl;rw[v1,v3] at g1;rw[v2,v4] at g2;have ln:=kZ (b7 ha.num.v_len ha.ln) (b7 hb.num.v_len hb.ln);have ld:=kZ (b7 ha.den.v_len ha.ld) (b7 hb.den.v_len hb.ld);have on:NOk ⟨false,.no,an (a.num.v*b.num.v)⟩:=wM (by omega);have od:NOk ⟨false,.no,an (a.den.v*b.den.v)⟩:=wM (by omega);have nf:∀n:Nat,(NV.mk false .no (an n)).fr=⟨false,.no,an n⟩:=fun _=>rfl;have nv:∀n:Nat,(NV.mk false .no (an n)).v=n:=fun n=>fG n;obtain ⟨r,h1,h2,h3⟩:=zV (a.neg != b.neg) on od;rw[nv,nv,<- DI] at h2;refine ⟨r,(bT _ _ (gA r) (ib _) (m:=[cR a,cR b,cR r]) ?_).trans (by rw[h3]),h2,h3⟩;rw[T78];simp only[Nat.reduceAdd,aa,ar,cr,di,bc,dj,dh,bj,ba,bE,b6,cF,cu,cw,ct,cO,dw,dz,cS,cT,cQ,cP,dA,dB,cW,cX,cV,cU,dC,dD,c8,c9,cZ,cY,dE,dF,de,df,dd,dc,dG,dH,bY,bZ,cN,cJ,cL,cK,cg,ck,bB,cH,cG,aR,aX,aK,aZ,bm,bN,aL,bk,bH,dJ,cE,cC,dp,dn,bS,bU,b8,g1,g2,nf,h1]
theorem NM{r:RV}:pE r=0↔r.q=0:=by
 unfold pE
 by_cases h:r.num.v=0\/r.den.v=0
 .rw[aj h];refine ⟨fun _=>?_,fun _=>rfl⟩
  rcases h with h|h
  .rw[RV.q,h,HO]
  .rw[RV.q,h,yY]
 .rw[ag h]
  constructor
  .intro h';split at h'<;>omega
  .intro h';have hd:r.den.v≠0:=fun e=>h (.inr e);exact absurd (.inl ((qiJ hd).1 h')) h
theorem V75{a b:RV}{k:Nat}(ha:ROk k a)(hb:ROk k b)(bu:1<=k)(hk:k<2^36):∃s:RV,AP ab 75 [a.av,b.av]=some s.av/\Can s (a.q+b.q)/\s.fr=s:=by
 have e1:=Kk ha.fr;have e2:=Kk hb.fr;have s1:pE a.fr=pE a:=rfl;have s2:pE b.fr=pE b:=rfl;rw[s1] at e1;rw[s2] at e2;have v1:a.num.fr.v=a.num.v:=rfl;have v2:a.den.fr.v=a.den.v:=rfl;have v3:b.num.fr.v=b.num.v:=rfl;have v4:b.den.fr.v=b.den.v:=rfl
 by_cases qW:pE a=0
 .obtain ⟨r,h1,h2,h3⟩:=zV b.neg hb.num.fr hb.den.fr;rw[v3,v4] at h2
  refine ⟨r,(bT _ _ (gA r) (ib _) (m:=[cR a,cR b,cR r]) ?_).trans (by rw[h3]),?_,h3⟩
  .rw[B3];simp only[Nat.reduceAdd,aa,ar,cr,di,bc,dj,dh,bj,ba,bE,b6,cF,cu,cw,ct,cO,dw,dz,cS,cT,cQ,cP,dA,dB,cW,cX,cV,cU,dC,dD,c8,c9,cZ,cY,dE,dF,de,df,dd,dc,dG,dH,bY,bZ,cN,cJ,cL,cK,cg,ck,bB,cH,cG,aR,aX,aK,aZ,bm,bN,aL,bk,bH,dJ,cE,cC,dp,dn,bS,bU,b8,e1,iY,aw];rw[aj qW];simp only[Nat.reduceAdd,aa,ar,cr,di,bc,dj,dh,bj,ba,bE,b6,cF,cu,cw,ct,cO,dw,dz,cS,cT,cQ,cP,dA,dB,cW,cX,cV,cU,dC,dD,c8,c9,cZ,cY,dE,dF,de,df,dd,dc,dG,dH,bY,bZ,cN,cJ,cL,cK,cg,ck,bB,cH,cG,aR,aX,aK,aZ,bm,bN,aL,bk,bH,dJ,cE,cC,dp,dn,bS,bU,b8,h1]
  .rw[NM.1 qW,Rat.zero_add];exact h2
 .by_cases nN:pE b=0
  .obtain ⟨r,h1,h2,h3⟩:=zV a.neg ha.num.fr ha.den.fr;rw[v1,v2] at h2
   refine ⟨r,(bT _ _ (gA r) (ib _) (m:=[cR a,cR b,cR r]) ?_).trans (by rw[h3]),?_,h3⟩
   .rw[B3];simp only[Nat.reduceAdd,aa,ar,cr,di,bc,dj,dh,bj,ba,bE,b6,cF,cu,cw,ct,cO,dw,dz,cS,cT,cQ,cP,dA,dB,cW,cX,cV,cU,dC,dD,c8,c9,cZ,cY,dE,dF,de,df,dd,dc,dG,dH,bY,bZ,cN,cJ,cL,cK,cg,ck,bB,cH,cG,aR,aX,aK,aZ,bm,bN,aL,bk,bH,dJ,cE,cC,dp,dn,bS,bU,b8,e1,iY,aw];rw[ag qW];simp only[Nat.reduceAdd,aa,ar,cr,di,bc,dj,dh,bj,ba,bE,b6,cF,cu,cw,ct,cO,dw,dz,cS,cT,cQ,cP,dA,dB,cW,cX,cV,cU,dC,dD,c8,c9,cZ,cY,dE,dF,de,df,dd,dc,dG,dH,bY,bZ,cN,cJ,cL,cK,cg,ck,bB,cH,cG,aR,aX,aK,aZ,bm,bN,aL,bk,bH,dJ,cE,cC,dp,dn,bS,bU,b8,e2,iY,aw];rw[aj nN];simp only[Nat.reduceAdd,aa,ar,cr,di,bc,dj,dh,bj,ba,bE,b6,cF,cu,cw,ct,cO,dw,dz,cS,cT,cQ,cP,dA,dB,cW,cX,cV,cU,dC,dD,c8,c9,cZ,cY,dE,dF,de,df,dd,dc,dG,dH,bY,bZ,cN,cJ,cL,cK,cg,ck,bB,cH,cG,aR,aX,aK,aZ,bm,bN,aL,bk,bH,dJ,cE,cC,dp,dn,bS,bU,b8,h1]
   .rw[NM.1 nN,Rat.add_zero];exact h2
  .have da:a.den.v≠0:=fun e=>qW (by unfold pE;rw[aj (.inr e)]);have db:b.den.v≠0:=fun e=>nN (by unfold pE;rw[aj (.inr e)]);have g1:=xB ha.num.fr hb.den.fr;have g2:=xB hb.num.fr ha.den.fr;have g3:=xB ha.den.fr hb.den.fr;rw[v1,v4] at g1;rw[v3,v2] at g2;rw[v2,v4] at g3;have lx:=kZ (b7 ha.num.v_len ha.ln) (b7 hb.den.v_len hb.ld);have ly:=kZ (b7 hb.num.v_len hb.ln) (b7 ha.den.v_len ha.ld);have ld:=kZ (b7 ha.den.v_len ha.ld) (b7 hb.den.v_len hb.ld);have lxy:=MB lx ly;have ox:NOk ⟨false,.no,an (a.num.v*b.den.v)⟩:=wM (by omega);have oy:NOk ⟨false,.no,an (b.num.v*a.den.v)⟩:=wM (by omega);have od:NOk ⟨false,.no,an (a.den.v*b.den.v)⟩:=wM (by omega);have nf:∀n:Nat,(NV.mk false .no (an n)).fr=⟨false,.no,an n⟩:=fun _=>rfl;have nv:∀n:Nat,(NV.mk false .no (an n)).v=n:=fun n=>fG n;have g4:=qch ox oy;have g5:=xC ox oy;have g6:=QF ox oy;have g7:=QF oy ox;rw[nv,nv] at g4 g5;unfold NR at g6 g7;rw[nv,nv] at g6 g7;have su:a.q+b.q=mkRat (fA a.neg (a.num.v*b.den.v)+fA b.neg (b.num.v*a.den.v)) (a.den.v*b.den.v):=Nm da db
   have fin:∀(neg:Bool) (n:Nat),(an n).length<2^38->mkRat (fA a.neg (a.num.v*b.den.v)+fA b.neg (b.num.v*a.den.v)) (a.den.v*b.den.v)=ew neg n (a.den.v*b.den.v)->∃r:RV,AP ab 106 [.bool neg,(NV.mk false .no (an n)).av,(NV.mk false .no (an (a.den.v*b.den.v))).av]=some r.av/\Can r (a.q+b.q)/\r.fr=r:=by
    intro neg n hn he;obtain ⟨r,h1,h2,h3⟩:=zV neg (x:=⟨false,.no,an n⟩) (wM (by omega)) od;rw[nv,nv,<- he,<- su] at h2;exact ⟨r,h1,h2,h3⟩
   by_cases hn:a.neg=b.neg
   .obtain ⟨r,h1,h2,h3⟩:=fin a.neg (a.num.v*b.den.v+b.num.v*a.den.v) (by omega) (by rw[<- hn,Wl];rfl);refine ⟨r,(bT _ _ (gA r) (ib _) (m:=[cR a,cR b,cR r]) ?_).trans (by rw[h3]),h2,h3⟩;rw[B3];simp only[Nat.reduceAdd,aa,ar,cr,di,bc,dj,dh,bj,ba,bE,b6,cF,cu,cw,ct,cO,dw,dz,cS,cT,cQ,cP,dA,dB,cW,cX,cV,cU,dC,dD,c8,c9,cZ,cY,dE,dF,de,df,dd,dc,dG,dH,bY,bZ,cN,cJ,cL,cK,cg,ck,bB,cH,cG,aR,aX,aK,aZ,bm,bN,aL,bk,bH,dJ,cE,cC,dp,dn,bS,bU,b8,e1,iY,aw];rw[ag qW];simp only[Nat.reduceAdd,aa,ar,cr,di,bc,dj,dh,bj,ba,bE,b6,cF,cu,cw,ct,cO,dw,dz,cS,cT,cQ,cP,dA,dB,cW,cX,cV,cU,dC,dD,c8,c9,cZ,cY,dE,dF,de,df,dd,dc,dG,dH,bY,bZ,cN,cJ,cL,cK,cg,ck,bB,cH,cG,aR,aX,aK,aZ,bm,bN,aL,bk,bH,dJ,cE,cC,dp,dn,bS,bU,b8,e2,iY,aw];rw[ag nN];rw[hn] at h1;simp only[Nat.reduceAdd,aa,ar,cr,di,bc,dj,dh,bj,ba,bE,b6,cF,cu,cw,ct,cO,dw,dz,cS,cT,cQ,cP,dA,dB,cW,cX,cV,cU,dC,dD,c8,c9,cZ,cY,dE,dF,de,df,dd,dc,dG,dH,bY,bZ,cN,cJ,cL,cK,cg,ck,bB,cH,cG,aR,aX,aK,aZ,bm,bN,aL,bk,bH,dJ,cE,cC,dp,dn,bS,bU,b8,g1,g2,g3,nf,hn,BEq.rfl,jj,g4,h1]
   .have aE:(a.neg==b.neg)=false:=by simpa using hn
    by_cases aG:a.num.v*b.den.v<b.num.v*a.den.v
    .obtain ⟨r,h1,h2,h3⟩:=fin b.neg (b.num.v*a.den.v-a.num.v*b.den.v) (jG (kD (Nat.sub_le _ _)) (by omega)) (by rw[Wk hn aG];rfl);refine ⟨r,(bT _ _ (gA r) (ib _) (m:=[cR b,cR b,cR r]) ?_).trans (by rw[h3]),h2,h3⟩;have hc:gS (a.num.v*b.den.v) (b.num.v*a.den.v)<0:=by unfold gS;rw[aj aG];omega
     rw[ag (by omega)] at g7;rw[B3];simp only[Nat.reduceAdd,aa,ar,cr,di,bc,dj,dh,bj,ba,bE,b6,cF,cu,cw,ct,cO,dw,dz,cS,cT,cQ,cP,dA,dB,cW,cX,cV,cU,dC,dD,c8,c9,cZ,cY,dE,dF,de,df,dd,dc,dG,dH,bY,bZ,cN,cJ,cL,cK,cg,ck,bB,cH,cG,aR,aX,aK,aZ,bm,bN,aL,bk,bH,dJ,cE,cC,dp,dn,bS,bU,b8,e1,iY,aw];rw[ag qW];simp only[Nat.reduceAdd,aa,ar,cr,di,bc,dj,dh,bj,ba,bE,b6,cF,cu,cw,ct,cO,dw,dz,cS,cT,cQ,cP,dA,dB,cW,cX,cV,cU,dC,dD,c8,c9,cZ,cY,dE,dF,de,df,dd,dc,dG,dH,bY,bZ,cN,cJ,cL,cK,cg,ck,bB,cH,cG,aR,aX,aK,aZ,bm,bN,aL,bk,bH,dJ,cE,cC,dp,dn,bS,bU,b8,e2,iY,aw];rw[ag nN];simp only[Nat.reduceAdd,aa,ar,cr,di,bc,dj,dh,bj,ba,bE,b6,cF,cu,cw,ct,cO,dw,dz,cS,cT,cQ,cP,dA,dB,cW,cX,cV,cU,dC,dD,c8,c9,cZ,cY,dE,dF,de,df,dd,dc,dG,dH,bY,bZ,cN,cJ,cL,cK,cg,ck,bB,cH,cG,aR,aX,aK,aZ,bm,bN,aL,bk,bH,dJ,cE,cC,dp,dn,bS,bU,b8,g1,g2,g3,nf,aE,fF,g5,gw,aw];rw[aj hc];simp only[Nat.reduceAdd,aa,ar,cr,di,bc,dj,dh,bj,ba,bE,b6,cF,cu,cw,ct,cO,dw,dz,cS,cT,cQ,cP,dA,dB,cW,cX,cV,cU,dC,dD,c8,c9,cZ,cY,dE,dF,de,df,dd,dc,dG,dH,bY,bZ,cN,cJ,cL,cK,cg,ck,bB,cH,cG,aR,aX,aK,aZ,bm,bN,aL,bk,bH,dJ,cE,cC,dp,dn,bS,bU,b8,nf,g7,h1]
    .obtain ⟨r,h1,h2,h3⟩:=fin a.neg (a.num.v*b.den.v-b.num.v*a.den.v) (jG (kD (Nat.sub_le _ _)) (by omega)) (by rw[Wj hn aG];rfl);refine ⟨r,(bT _ _ (gA r) (ib _) (m:=[cR a,cR b,cR r]) ?_).trans (by rw[h3]),h2,h3⟩;have hc:¬ gS (a.num.v*b.den.v) (b.num.v*a.den.v)<0:=by unfold gS;rw[ag aG];split<;>omega
     rw[ag aG] at g6;rw[B3];simp only[Nat.reduceAdd,aa,ar,cr,di,bc,dj,dh,bj,ba,bE,b6,cF,cu,cw,ct,cO,dw,dz,cS,cT,cQ,cP,dA,dB,cW,cX,cV,cU,dC,dD,c8,c9,cZ,cY,dE,dF,de,df,dd,dc,dG,dH,bY,bZ,cN,cJ,cL,cK,cg,ck,bB,cH,cG,aR,aX,aK,aZ,bm,bN,aL,bk,bH,dJ,cE,cC,dp,dn,bS,bU,b8,e1,iY,aw];rw[ag qW];simp only[Nat.reduceAdd,aa,ar,cr,di,bc,dj,dh,bj,ba,bE,b6,cF,cu,cw,ct,cO,dw,dz,cS,cT,cQ,cP,dA,dB,cW,cX,cV,cU,dC,dD,c8,c9,cZ,cY,dE,dF,de,df,dd,dc,dG,dH,bY,bZ,cN,cJ,cL,cK,cg,ck,bB,cH,cG,aR,aX,aK,aZ,bm,bN,aL,bk,bH,dJ,cE,cC,dp,dn,bS,bU,b8,e2,iY,aw];rw[ag nN];simp only[Nat.reduceAdd,aa,ar,cr,di,bc,dj,dh,bj,ba,bE,b6,cF,cu,cw,ct,cO,dw,dz,cS,cT,cQ,cP,dA,dB,cW,cX,cV,cU,dC,dD,c8,c9,cZ,cY,dE,dF,de,df,dd,dc,dG,dH,bY,bZ,cN,cJ,cL,cK,cg,ck,bB,cH,cG,aR,aX,aK,aZ,bm,bN,aL,bk,bH,dJ,cE,cC,dp,dn,bS,bU,b8,g1,g2,g3,nf,aE,fF,g5,gw,aw];rw[ag hc];simp only[Nat.reduceAdd,aa,ar,cr,di,bc,dj,dh,bj,ba,bE,b6,cF,cu,cw,ct,cO,dw,dz,cS,cT,cQ,cP,dA,dB,cW,cX,cV,cU,dC,dD,c8,c9,cZ,cY,dE,dF,de,df,dd,dc,dG,dH,bY,bZ,cN,cJ,cL,cK,cg,ck,bB,cH,cG,aR,aX,aK,aZ,bm,bN,aL,bk,bH,dJ,cE,cC,dp,dn,bS,bU,b8,nf,g6,h1]
end Go.Ab
namespace Go.Ab
open Go.Proofs.Try
theorem Qq(a0:AV)(m:ae):AC ab 18 [a0] m =
 (ao (AP ab) none (ak none m (.obj true [(.int .i64 0),(.int .i64 0),(.lst none true .full [])])).2 57 [a0,a0]).bind fun r1=>
 (af .other .neq r1.1 (.int .i64 0)).bind fun v2=>
 au v2 (
 (eI (.agg [(.int .i64 0),(.int .i64 0),(.lst none true .full [])]) []).bind fun v3=>
 (aA (some 3) r1.2 (.ptr (ak none m .resv).1 0) v3).bind fun m4=>
 (ai (some 3) m4 (.ptr (ak none m .resv).1 0)).bind fun v5=>
 some ((.tup [v5,r1.1]),m4)) (
 (ao (AP ab) none r1.2 58 [a0,a0,(.fn 62 [])]).bind fun r6=>
 (aA (some 3) r6.2 (.ptr (ak none m .resv).1 0) r6.1).bind fun m7=>
 (ai (some 3) m7 (.ptr (ak none m .resv).1 0)).bind fun v8=>
 some ((.tup [v8,(.int .i64 0)]),m7)):=
(bW ab 18 [a0] m (fn:=f18) (c:=al f18) qd2 rfl).trans (by kernel_rfl)
def JQ(m:ae):St:=⟨[.any,.any,.any,.any,.any,.any,.any,.any,.any,.any,.any,.any,.any,.any,.any,.any,.any,.any,.any,.any,.any,.any,.any,.any,.any,.any,.any,.any,.any,.any,.any,.any,.any,.any,.any,.any,.any,.any,.any,.any,.any,.any,.any,.any,.any],m⟩
def Ke(x2:AV)(m:ae):St:=⟨[.any,.any,x2,.any,.any,.any,.any,.any,.any,.any,.any,.any,.any,.any,.any,.any,.any,.any,.any,.any,.any,.any,.any,.any,.any,.any,.any,.any,.any,.any,.any,.any,.any,.any,.any,.any,.any,.any,.any,.any,.any,.any,.any,.any,.any],m⟩
noncomputable def EY(td te nD:AV)(m:ae)(K:KT):OM:=bP (aq ab 20 (AP ab) (AC ab) (c1 (c1 (c2 (c1 (c2 (c2 (al f20)))))))) (ab.mask 20 (some 4)) ⟨[.any,.any,.any,.any,.any,.any,.any,.any,.any,.any,.any,.any,.any,.any,.any,.any,.any,.any,.any,.any,.any,.any,.any,.any,.any,.any,.any,.any,.any,.any,.any,.any,.any,.any,.any,td,te,nD,.any,.any,.any,.any,.any,.any,.any],m⟩ K
noncomputable abbrev Zx(K:KT):KT:=dQ (fun st=>aq ab 20 (AP ab) (AC ab) (c2 (c2 (c2 (al f20)))) st K) K
noncomputable abbrev Zy(K:KT):KT:=dK 0 (Zx K)
noncomputable abbrev EB(K:KT):KT:=(Zy K)
theorem T20(a0:AV)(m:ae):AC ab 20 [a0] m =
 (ef none (some 3) m a0).bind fun r1=>
 (aB 0 r1.1).bind fun v2=>
 (ai none r1.2 v2).bind fun v3=>
 (af .other .lss v3 (.int .i64 0)).bind fun v4=>
 au v4 (
 some ((.bool false),r1.2)) (
 (aB 0 r1.1).bind fun v5=>
 (ai none r1.2 v5).bind fun v6=>
 (af .other .gtr v6 (.int .i64 60)).bind fun v7=>
 au v7 (
 some ((.bool false),r1.2)) (
 (aB 1 r1.1).bind fun v8=>
 (ai none r1.2 v8).bind fun v9=>
 (af .other .lss v9 (.int .i64 0)).bind fun v10=>
 au v10 (
 some ((.bool false),r1.2)) (
 (aB 1 r1.1).bind fun v11=>
 (ai none r1.2 v11).bind fun aV=>
 (af .other .gtr aV (.int .i64 60)).bind fun bL=>
 au bL (
 some ((.bool false),r1.2)) (
 (aB 2 r1.1).bind fun bM=>
 (ai none r1.2 bM).bind fun bz=>
 (aY false bz).bind fun bQ=>
 (aB 0 r1.1).bind fun bV=>
 (ai none r1.2 bV).bind fun dU=>
 (aB 1 r1.1).bind fun dL=>
 (ai none r1.2 dL).bind fun v20=>
 (af .other .mul dU v20).bind fun eg=>
 (af .other .neq bQ eg).bind fun dV=>
 au dV (
 some ((.bool false),r1.2)) (
 (aB 2 r1.1).bind fun fS=>
 (ai none r1.2 fS).bind fun gD=>
 (aY false gD).bind fun fT=>
 EY gD fT (.int .i64 0) r1.2 (EB (aN ab.P f20.results.toList))))))):=
(bW ab 20 [a0] m (fn:=f20) (c:=al f20) qd3 rfl).trans (by kernel_rfl)
theorem PQ(td te nD:AV)(m:ae)(K:KT):EY td te nD m K =
 (af .other .lss nD te).bind fun v1=>
 au v1 (
 (aJ (some 3) td nD).bind fun v2=>
 (ai (some 3) m v2).bind fun v3=>
 (aA (some 3) (ak none m (.obj true [(.bool false),(.lst none true .full []),(.lst none true .full [])])).2 (.ptr (ak none m .resv).1 0) v3).bind fun m4=>
 (ai (some 3) m4 (.ptr (ak none m .resv).1 0)).bind fun v5=>
 (ao (AP ab) none m4 64 [v5]).bind fun r6=>
 (iI .not r6.1).bind fun v7=>
 au v7 (
 K .ret (Ke (.bool false) r6.2)) (
 (af .other .add nD (.int .i64 1)).bind fun v8=>
 EY td te v8 r6.2 K)) (
 K (.exit 0) (JQ m)):=
(eu (ed _) _ _ _).trans (by kernel_rfl)
theorem ZA(m:ae):EB (aN ab.P f20.results.toList) (.exit 0) (JQ  m) =
 some ((.bool true),m):=by kernel_rfl
theorem Zz(x2:AV)(m:ae):EB (aN ab.P f20.results.toList) .ret (Ke x2 m) =
 some (x2,m):=by kernel_rfl
theorem T50(a0:AV)(m:ae):AC ab 50 [a0] m =
 (ef none (some 3) m a0).bind fun r1=>
 (ai (some 3) r1.2 r1.1).bind fun v2=>
 (ao (AP ab) none r1.2 20 [v2]).bind fun r3=>
 (iI .not r3.1).bind fun v4=>
 au v4 (
 some ((.tup [(.int .i64 0),(.int .i64 1)]),r3.2)) (
 (ai (some 3) r3.2 r1.1).bind fun v5=>
 (aB 1 r1.1).bind fun v6=>
 (ai none r3.2 v6).bind fun v7=>
 (nT (AC ab) r3.2 56 [v5]).bind fun r8=>
 Hh ((ai none r8.2 v6).bind (fun v=>some (v,r8.2))=some (v7,r8.2)) (
 (AC ab 88 [r8.1,v7] r8.2).bind fun r9=>
 (bg r9.1 0).bind fun v10=>
 (bg r9.1 1).bind fun v11=>
 some ((.tup [v10,(.int .i64 0)]),r9.2))):=
(bW ab 50 [a0] m (fn:=f50) (c:=al f50) qeh rfl).trans (by kernel_rfl)
theorem Qs(a0 a1:AV)(m:ae):AC ab 52 [a0,a1] m =
 (ef none (some 3) m a0).bind fun r1=>
 (ef none (some 3) r1.2 a1).bind fun r2=>
 (ai (some 3) (ak none r2.2 (.obj true [(.int .i64 0),(.int .i64 0),(.lst none true .full [])])).2 r1.1).bind fun v3=>
 (ao (AP ab) none (ak none r2.2 (.obj true [(.int .i64 0),(.int .i64 0),(.lst none true .full [])])).2 20 [v3]).bind fun r4=>
 (iI .not r4.1).bind fun v5=>
 au v5 (
 (eI (.agg [(.int .i64 0),(.int .i64 0),(.lst none true .full [])]) []).bind fun v6=>
 (aA (some 3) r4.2 (.ptr (ak none r2.2 .resv).1 0) v6).bind fun m7=>
 (ai (some 3) m7 (.ptr (ak none r2.2 .resv).1 0)).bind fun v8=>
 some ((.tup [v8,(.int .i64 1)]),m7)) (
 (ai (some 3) r4.2 r2.1).bind fun v9=>
 (ao (AP ab) none r4.2 20 [v9]).bind fun fR=>
 (iI .not fR.1).bind fun v11=>
 au v11 (
 (eI (.agg [(.int .i64 0),(.int .i64 0),(.lst none true .full [])]) []).bind fun aV=>
 (aA (some 3) fR.2 (.ptr (ak none r2.2 .resv).1 0) aV).bind fun m13=>
 (ai (some 3) m13 (.ptr (ak none r2.2 .resv).1 0)).bind fun bM=>
 some ((.tup [bM,(.int .i64 1)]),m13)) (
 (aB 0 r1.1).bind fun bz=>
 (ai none fR.2 bz).bind fun bQ=>
 (aB 1 r1.1).bind fun bV=>
 (ai none fR.2 bV).bind fun dU=>
 (af .other .neq bQ dU).bind fun dL=>
 au dL (
 (eI (.agg [(.int .i64 0),(.int .i64 0),(.lst none true .full [])]) []).bind fun v20=>
 (aA (some 3) fR.2 (.ptr (ak none r2.2 .resv).1 0) v20).bind fun m21=>
 (ai (some 3) m21 (.ptr (ak none r2.2 .resv).1 0)).bind fun dV=>
 some ((.tup [dV,(.int .i64 30)]),m21)) (
 (aB 0 r2.1).bind fun fS=>
 (ai none fR.2 fS).bind fun gD=>
 (aB 0 r1.1).bind fun fT=>
 (ai none fR.2 fT).bind fun gW=>
 (af .other .neq gD gW).bind fun gL=>
 au gL (
 (eI (.agg [(.int .i64 0),(.int .i64 0),(.lst none true .full [])]) []).bind fun fU=>
 (aA (some 3) fR.2 (.ptr (ak none r2.2 .resv).1 0) fU).bind fun m29=>
 (ai (some 3) m29 (.ptr (ak none r2.2 .resv).1 0)).bind fun v30=>
 some ((.tup [v30,(.int .i64 30)]),m29)) (
 (ai (some 3) fR.2 r1.1).bind fun ki=>
 (ai (some 3) fR.2 r2.1).bind fun kS=>
 (ao (AP ab) none fR.2 92 [ki,kS]).bind fun sK=>
 (bg sK.1 0).bind fun pG=>
 (bg sK.1 1).bind fun lB=>
 (aA (some 3) (ak none sK.2 (.obj true [(.int .i64 0),(.int .i64 0),(.lst none true .full [])])).2 (.ptr (ak none sK.2 .resv).1 0) pG).bind fun m36=>
 (iI .not lB).bind fun vu=>
 au vu (
 (eI (.agg [(.int .i64 0),(.int .i64 0),(.lst none true .full [])]) []).bind fun vw=>
 (aA (some 3) m36 (.ptr (ak none r2.2 .resv).1 0) vw).bind fun m39=>
 (ai (some 3) m39 (.ptr (ak none r2.2 .resv).1 0)).bind fun ta=>
 some ((.tup [ta,(.int .i64 31)]),m39)) (
 (ai (some 3) m36 (.ptr (ak none sK.2 .resv).1 0)).bind fun vy=>
 (aA (some 3) m36 (.ptr (ak none r2.2 .resv).1 0) vy).bind fun m42=>
 (ai (some 3) m42 (.ptr (ak none r2.2 .resv).1 0)).bind fun zj=>
 some ((.tup [zj,(.int .i64 0)]),m42)))))):=
(bW ab 52 [a0,a1] m (fn:=f52) (c:=al f52) qei rfl).trans (by kernel_rfl)
theorem Qu(a0:AV)(m:ae):AC ab 54 [a0] m =
 (ef none (some 3) m a0).bind fun r1=>
 (ai (some 3) (ak none r1.2 (.obj true [(.int .i64 0),(.int .i64 0),(.lst none true .full [])])).2 r1.1).bind fun v2=>
 (ao (AP ab) none (ak none r1.2 (.obj true [(.int .i64 0),(.int .i64 0),(.lst none true .full [])])).2 20 [v2]).bind fun r3=>
 (iI .not r3.1).bind fun v4=>
 au v4 (
 (eI (.agg [(.int .i64 0),(.int .i64 0),(.lst none true .full [])]) []).bind fun v5=>
 (aA (some 3) r3.2 (.ptr (ak none r1.2 .resv).1 0) v5).bind fun m6=>
 (ai (some 3) m6 (.ptr (ak none r1.2 .resv).1 0)).bind fun v7=>
 some ((.tup [v7,(.int .i64 1)]),m6)) (
 (ai (some 3) r3.2 r1.1).bind fun v8=>
 (aB 0 r1.1).bind fun v9=>
 (ai none r3.2 v9).bind fun v10=>
 (aB 0 r1.1).bind fun v11=>
 (ai none r3.2 v11).bind fun aV=>
 (ao (AP ab) (some r3.2.length) r3.2 58 [v10,aV,(.fn 62 [])]).bind fun iT=>
 (ao (AP ab) (some r3.2.length) iT.2 52 [v8,iT.1]).bind fun rm=>
 (bg rm.1 0).bind fun bz=>
 (bg rm.1 1).bind fun bQ=>
 (aA (some 3) rm.2 (.ptr (ak none r1.2 .resv).1 0) bz).bind fun m17=>
 (ai (some 3) m17 (.ptr (ak none r1.2 .resv).1 0)).bind fun dU=>
 some ((.tup [dU,bQ]),m17)):=
(bW ab 54 [a0] m (fn:=f54) (c:=al f54) qek rfl).trans (by kernel_rfl)
def JU(x2 x3:AV)(m:ae):St:=⟨[.any,.any,x2,x3,.any,.any,.any,.any,.any,.any,.any,.any,.any,.any,.any,.any,.any,.any,.any,.any,.any,.any,.any,.any,.any,.any,.any],m⟩
noncomputable def E2(x2 x3 cq bo bG:AV)(m:ae)(K:KT):OM:=bP (aq ab 56 (AP ab) (AC ab) (c1 (c1 (c2 (c1 (c2 (c2 (al f56)))))))) (ab.mask 56 (some 3)) ⟨[.any,.any,x2,x3,.any,.any,.any,.any,.any,.any,.any,.any,cq,bo,bG,.any,.any,.any,.any,.any,.any,.any,.any,.any,.any,.any,.any],m⟩ K
noncomputable abbrev ZR(K:KT):KT:=dQ (fun st=>aq ab 56 (AP ab) (AC ab) (c2 (c2 (c2 (al f56)))) st K) K
noncomputable abbrev ZS(K:KT):KT:=dK 0 (ZR K)
noncomputable abbrev Je(K:KT):KT:=(ZS K)
theorem T56(a0:AV)(m:ae):AC ab 56 [a0] m =
 (ef none (some 3) m a0).bind fun r1=>
 (aB 0 r1.1).bind fun v2=>
 (ai none (ak none r1.2 (.obj true [(.int .i64 0),(.int .i64 0),(.lst none true .full [])])).2 v2).bind fun v3=>
 (aB 1 r1.1).bind fun v4=>
 (ai none (ak none r1.2 (.obj true [(.int .i64 0),(.int .i64 0),(.lst none true .full [])])).2 v4).bind fun v5=>
 (eI (.agg [(.int .i64 0),(.int .i64 0),(.lst none true .full [])]) [(0,none,v3),(1,none,v5)]).bind fun v6=>
 (aA (some 3) (ak none (ak none r1.2 (.obj true [(.int .i64 0),(.int .i64 0),(.lst none true .full [])])).2 (.obj true [(.int .i64 0),(.int .i64 0),(.lst none true .full [])])).2 (.ptr (ak none (ak none r1.2 (.obj true [(.int .i64 0),(.int .i64 0),(.lst none true .full [])])).2 .resv).1 0) v6).bind fun m7=>
 (aB 2 r1.1).bind fun v8=>
 (ai none m7 v8).bind fun v9=>
 (aY false v9).bind fun v10=>
 E2 (.ptr (ak none r1.2 .resv).1 0) (.ptr (ak none (ak none r1.2 (.obj true [(.int .i64 0),(.int .i64 0),(.lst none true .full [])])).2 .resv).1 0) v9 v10 (.int .i64 0) m7 (Je (aN ab.P f56.results.toList)):=
(bW ab 56 [a0] m (fn:=f56) (c:=al f56) qem rfl).trans (by kernel_rfl)
theorem PU(x2 x3 cq bo bG:AV)(m:ae)(K:KT):E2 x2 x3 cq bo bG m K =
 (af .other .lss bG bo).bind fun v1=>
 au v1 (
 (aJ (some 3) cq bG).bind fun v2=>
 (ai (some 3) m v2).bind fun v3=>
 (aA (some 3) (ak none m (.obj true [(.bool false),(.lst none true .full []),(.lst none true .full [])])).2 (.ptr (ak none m .resv).1 0) v3).bind fun m4=>
 (aB 2 x3).bind fun v5=>
 (ai none (eH m4 1) v5).bind fun v6=>
 (ai (some 3) (eH m4 1) (.ptr (ak none m .resv).1 0)).bind fun v7=>
 (ao (AP ab) (some m4.length) (eH m4 1) 67 [v7]).bind fun r8=>
 (iq (some 3) [r8.1]).bind fun v9=>
 (eG (some m4.length) false 43 (some 3) 56 r8.2 v6 v9).bind fun fR=>
 (aB 2 x3).bind fun v11=>
 (aA none fR.2 v11 fR.1).bind fun m12=>
 (af .other .add bG (.int .i64 1)).bind fun bL=>
 E2 x2 x3 cq bo bL m12 K) (
 K (.exit 0) (JU x2 x3 m)):=
(eu (ed _) _ _ _).trans (by kernel_rfl)
theorem ZT(x2 x3:AV)(m:ae):Je (aN ab.P f56.results.toList) (.exit 0) (JU x2 x3 m) =
 (ai (some 3) m x3).bind fun v1=>
 (aA (some 3) m x2 v1).bind fun m2=>
 (ai (some 3) m2 x2).bind fun v3=>
 some (v3,m2):=by kernel_rfl
theorem T57(a0 a1:AV)(m:ae):AC ab 57 [a0,a1] m =
 (af .other .lss a0 (.int .i64 0)).bind fun v1=>
 au v1 (
 some ((.int .i64 1),m)) (
 (af .other .lss a1 (.int .i64 0)).bind fun v2=>
 au v2 (
 some ((.int .i64 1),m)) (
 (af .other .gtr a0 (.int .i64 60)).bind fun v3=>
 au v3 (
 some ((.int .i64 2),m)) (
 (af .other .gtr a1 (.int .i64 60)).bind fun v4=>
 au v4 (
 some ((.int .i64 2),m)) (
 some ((.int .i64 0),m))))):=
(bW ab 57 [a0,a1] m (fn:=f57) (c:=al f57) qen rfl).trans (by kernel_rfl)
def JV(x6 x7:AV)(m:ae):St:=⟨[.any,.any,.any,.any,.any,.any,x6,x7,.any,.any,.any,.any,.any,.any,.any,.any,.any,.any,.any,.any,.any,.any,.any,.any,.any,.any,.any,.any,.any,.any,.any,.any,.any],m⟩
noncomputable def E3(x1 x2 x6 x7 bo bG:AV)(m:ae)(K:KT):OM:=bP (aq ab 58 (AP ab) (AC ab) (c1 (c1 (c2 (c1 (c2 (c2 (al f58)))))))) (ab.mask 58 (some 3)) ⟨[.any,x1,x2,.any,.any,.any,x6,x7,.any,.any,.any,.any,.any,bo,bG,.any,.any,.any,.any,.any,.any,.any,.any,.any,.any,.any,.any,.any,.any,.any,.any,.any,.any],m⟩ K
def JW(x1 x2 x6 x7 bo bG:AV)(m:ae):St:=⟨[.any,x1,x2,.any,.any,.any,x6,x7,.any,.any,.any,.any,.any,bo,bG,.any,.any,.any,.any,.any,.any,.any,.any,.any,.any,.any,.any,.any,.any,.any,.any,.any,.any],m⟩
noncomputable def E4(x1 x2 x6 x7 x8 bo bG rE ov:AV)(m:ae)(K:KT):OM:=bP (aq ab 58 (AP ab) (AC ab) (c1 (c1 (c2 (c2 (c1 (c1 (c2 (c2 (c1 (c1 (c2 (c1 (c2 (c2 (al f58)))))))))))))))) (ab.mask 58 (some 6)) ⟨[.any,x1,x2,.any,.any,.any,x6,x7,x8,.any,.any,.any,.any,bo,bG,.any,.any,rE,ov,.any,.any,.any,.any,.any,.any,.any,.any,.any,.any,.any,.any,.any,.any],m⟩ K
noncomputable abbrev ZU(K:KT):KT:=dQ (fun st=>aq ab 58 (AP ab) (AC ab) (c2 (c2 (c2 (al f58)))) st K) K
noncomputable abbrev ZV(K:KT):KT:=dK 0 (ZU K)
noncomputable abbrev EG(K:KT):KT:=(ZV K)
noncomputable abbrev ZW(K:KT):KT:=dQ (fun st=>aq ab 58 (AP ab) (AC ab) (c2 (c2 (c2 (c1 (c1 (c2 (c1 (c2 (c2 (al f58)))))))))) st (fz (fun st=>bP (aq ab 58 (AP ab) (AC ab) (c1 (c1 (c2 (c1 (c2 (c2 (al f58)))))))) (ab.mask 58 (some 3)) st K) (ab.mask 58 (some 3)) K)) (fz (fun st=>bP (aq ab 58 (AP ab) (AC ab) (c1 (c1 (c2 (c1 (c2 (c2 (al f58)))))))) (ab.mask 58 (some 3)) st K) (ab.mask 58 (some 3)) K)
noncomputable abbrev ZX(K:KT):KT:=dK 1 (ZW K)
noncomputable abbrev ZY(K:KT):KT:=dK 2 (ZX K)
noncomputable abbrev Jf(K:KT):KT:=(ZY K)
theorem Qx(a0 a1 a2:AV)(m:ae):AC ab 58 [a0,a1,a2] m =
 (eI (.agg [(.int .i64 0),(.int .i64 0),(.lst none true .full [])]) [(0,none,a0),(1,none,a1)]).bind fun v1=>
 (aA (some 3) (ak none (ak none m (.obj true [(.int .i64 0),(.int .i64 0),(.lst none true .full [])])).2 (.obj true [(.int .i64 0),(.int .i64 0),(.lst none true .full [])])).2 (.ptr (ak none (ak none m (.obj true [(.int .i64 0),(.int .i64 0),(.lst none true .full [])])).2 .resv).1 0) v1).bind fun m2=>
 E3 a1 a2 (.ptr (ak none m .resv).1 0) (.ptr (ak none (ak none m (.obj true [(.int .i64 0),(.int .i64 0),(.lst none true .full [])])).2 .resv).1 0) a0 (.int .i64 0) m2 (EG (aN ab.P f58.results.toList)):=
(bW ab 58 [a0,a1,a2] m (fn:=f58) (c:=al f58) qeo rfl).trans (by kernel_rfl)
theorem PW(x1 x2 x6 x7 bo bG:AV)(m:ae)(K:KT):E3 x1 x2 x6 x7 bo bG m K =
 (af .other .lss bG bo).bind fun v1=>
 au v1 (
 E4 x1 x2 x6 x7 bG bo bG x1 (.int .i64 0) m (Jf K)) (
 K (.exit 0) (JV x6 x7 m)):=
(eu (ed _) _ _ _).trans (by kernel_rfl)
theorem PZ(x1 x2 x6 x7 x8 bo bG rE ov:AV)(m:ae)(K:KT):E4 x1 x2 x6 x7 x8 bo bG rE ov m K =
 (af .other .lss ov rE).bind fun v1=>
 au v1 (
 (aB 2 x7).bind fun v2=>
 (ai none (eH m 1) v2).bind fun v3=>
 (xU x2).bind fun g4=>
 nK ab 58 (AP ab) (AC ab) (some m.length) g4.1 ([x8,ov]++g4.2) (eH m 1) fun v5 m6=>
 (iq (some 3) [v5]).bind fun v7=>
 (eG (some m.length) false 43 (some 3) 56 m6 v3 v7).bind fun r8=>
 (aB 2 x7).bind fun v9=>
 (aA none r8.2 v9 r8.1).bind fun m10=>
 (af .other .add ov (.int .i64 1)).bind fun v11=>
 E4 x1 x2 x6 x7 x8 bo bG rE v11 m10 K) (
 K (.exit 2) (JW x1 x2 x6 x7 bo bG m)):=
(eu (ed _) _ _ _).trans (by kernel_rfl)
theorem O6(x6 x7:AV)(m:ae):EG (aN ab.P f58.results.toList) (.exit 0) (JV x6 x7 m) =
 (ai (some 3) m x7).bind fun v1=>
 (aA (some 3) m x6 v1).bind fun m2=>
 (ai (some 3) m2 x6).bind fun v3=>
 some (v3,m2):=by kernel_rfl
theorem ZZ(x1 x2 x6 x7 bo bG:AV)(m:ae)(K:KT):Jf K (.exit 2) (JW x1 x2 x6 x7 bo bG m) =
 (af .other .add bG (.int .i64 1)).bind fun v1=>
 E3 x1 x2 x6 x7 bo v1 m K:=by kernel_rfl
theorem Qy(a0 a1:AV)(m:ae):AC ab 62 [a0,a1] m =
 (af .other .eql a0 a1).bind fun v1=>
 au v1 (
 (ao (AP ab) none (ak none m (.obj true [(.bool false),(.lst none true .full []),(.lst none true .full [])])).2 84 []).bind fun r2=>
 (aA (some 3) r2.2 (.ptr (ak none m .resv).1 0) r2.1).bind fun m3=>
 (ai (some 3) m3 (.ptr (ak none m .resv).1 0)).bind fun v4=>
 some (v4,m3)) (
 (ao (AP ab) none (ak none m (.obj true [(.bool false),(.lst none true .full []),(.lst none true .full [])])).2 60 []).bind fun r5=>
 (aA (some 3) r5.2 (.ptr (ak none m .resv).1 0) r5.1).bind fun m6=>
 (ai (some 3) m6 (.ptr (ak none m .resv).1 0)).bind fun v7=>
 some (v7,m6)):=
(bW ab 62 [a0,a1] m (fn:=f62) (c:=al f62) qer rfl).trans (by kernel_rfl)
theorem T67(a0:AV)(m:ae):AC ab 67 [a0] m =
 (ef none (some 3) m a0).bind fun r1=>
 (aB 0 r1.1).bind fun v2=>
 (ai none (eH (ak none r1.2 (.obj true [(.bool false),(.lst none true .full []),(.lst none true .full [])])).2 2) v2).bind fun v3=>
 (aB 1 r1.1).bind fun v4=>
 (ai none (eH (ak none r1.2 (.obj true [(.bool false),(.lst none true .full []),(.lst none true .full [])])).2 2) v4).bind fun v5=>
 (aB 2 r1.1).bind fun v6=>
 (ai none (eH (ak none r1.2 (.obj true [(.bool false),(.lst none true .full []),(.lst none true .full [])])).2 2) v6).bind fun v7=>
 (eG (some (ak none r1.2 (.obj true [(.bool false),(.lst none true .full []),(.lst none true .full [])])).2.length) false 116 none 4 (eH (ak none r1.2 (.obj true [(.bool false),(.lst none true .full []),(.lst none true .full [])])).2 2) (.lst none true .full []) v5).bind fun r8=>
 (eG (some ((ak none r1.2 (.obj true [(.bool false),(.lst none true .full []),(.lst none true .full [])])).2.length+1)) false 116 none 4 r8.2 (.lst none true .full []) v7).bind fun r9=>
 (eI (.agg [(.bool false),(.lst none true .full []),(.lst none true .full [])]) [(0,none,v3),(1,none,r8.1),(2,none,r9.1)]).bind fun v10=>
 (aA (some 3) r9.2 (.ptr (ak none r1.2 .resv).1 0) v10).bind fun m11=>
 (ai (some 3) m11 (.ptr (ak none r1.2 .resv).1 0)).bind fun aV=>
 some (aV,m11):=
(bW ab 67 [a0] m (fn:=f67) (c:=al f67) qew rfl).trans (by kernel_rfl)
theorem T82(a0:AV)(m:ae):AC ab 82 [a0] m =
 (ef none (some 3) m a0).bind fun r1=>
 some ((.fn 114 [r1.1]),r1.2):=
(bW ab 82 [a0] m (fn:=f82) (c:=al f82) qeE rfl).trans (by kernel_rfl)
def J2(x6 x7:AV)(m:ae):St:=⟨[.any,.any,.any,.any,.any,.any,x6,x7,.any,.any,.any,.any,.any,.any,.any,.any,.any,.any,.any,.any,.any,.any,.any,.any,.any,.any,.any,.any,.any,.any,.any,.any,.any,.any,.any,.any,.any,.any,.any,.any,.any,.any,.any,.any,.any,.any,.any,.any,.any,.any,.any,.any,.any,.any],m⟩
noncomputable def xq(x1 x2 x6 x7 x8:AV)(m:ae)(K:KT):OM:=bP (aq ab 88 (AP ab) (AC ab) (c1 (c1 (c2 (c1 (c2 (c2 (al f88)))))))) (ab.mask 88 (some 3)) ⟨[.any,x1,x2,.any,.any,.any,x6,x7,x8,.any,.any,.any,.any,.any,.any,.any,.any,.any,.any,.any,.any,.any,.any,.any,.any,.any,.any,.any,.any,.any,.any,.any,.any,.any,.any,.any,.any,.any,.any,.any,.any,.any,.any,.any,.any,.any,.any,.any,.any,.any,.any,.any,.any,.any],m⟩ K
def J1(x1 x2 x6 x7 x8:AV)(m:ae):St:=⟨[.any,x1,x2,.any,.any,.any,x6,x7,x8,.any,.any,.any,.any,.any,.any,.any,.any,.any,.any,.any,.any,.any,.any,.any,.any,.any,.any,.any,.any,.any,.any,.any,.any,.any,.any,.any,.any,.any,.any,.any,.any,.any,.any,.any,.any,.any,.any,.any,.any,.any,.any,.any,.any,.any],m⟩
noncomputable def zC(x1 x2 x6 x7 x8 aT:AV)(m:ae)(K:KT):OM:=bP (aq ab 88 (AP ab) (AC ab) (c1 (c1 (c2 (c1 (c2 (c2 (c2 (c1 (c1 (c2 (c1 (c1 (c2 (c1 (c2 (c2 (al f88)))))))))))))))))) (ab.mask 88 (some 11)) ⟨[.any,x1,x2,.any,.any,.any,x6,x7,x8,.any,aT,.any,.any,.any,.any,.any,.any,.any,.any,.any,.any,.any,.any,.any,.any,.any,.any,.any,.any,.any,.any,.any,.any,.any,.any,.any,.any,.any,.any,.any,.any,.any,.any,.any,.any,.any,.any,.any,.any,.any,.any,.any,.any,.any],m⟩ K
noncomputable abbrev qai(K:KT):KT:=dQ (fun st=>aq ab 88 (AP ab) (AC ab) (c2 (c2 (c2 (al f88)))) st K) K
noncomputable abbrev qaj(K:KT):KT:=dK 0 (qai K)
noncomputable abbrev xn(K:KT):KT:=(qaj K)
noncomputable abbrev qae(K:KT):KT:=dQ (fun st=>aq ab 88 (AP ab) (AC ab) (c2 (c2 (c1 (c1 (c2 (c1 (c2 (c2 (al f88))))))))) st (fz (fun st=>bP (aq ab 88 (AP ab) (AC ab) (c1 (c1 (c2 (c1 (c2 (c2 (al f88)))))))) (ab.mask 88 (some 3)) st K) (ab.mask 88 (some 3)) K)) (fz (fun st=>bP (aq ab 88 (AP ab) (AC ab) (c1 (c1 (c2 (c1 (c2 (c2 (al f88)))))))) (ab.mask 88 (some 3)) st K) (ab.mask 88 (some 3)) K)
noncomputable abbrev Pa(K:KT):KT:=dK 1 (qae K)
noncomputable abbrev qaf(K:KT):KT:=dQ (fun st=>aq ab 88 (AP ab) (AC ab) (c2 (c2 (c2 (c2 (c1 (c1 (c2 (c1 (c1 (c2 (c1 (c2 (c2 (al f88)))))))))))))) st (Pa K)) (Pa K)
noncomputable abbrev qag(K:KT):KT:=dK 2 (qaf K)
noncomputable abbrev BD(K:KT):KT:=(qag K)
theorem QB(a0 a1:AV)(m:ae):AC ab 88 [a0,a1] m =
 (ef none (some 3) m a0).bind fun r1=>
 xq a1 r1.1 (.int .i64 0) (.bool false) (.int .i64 0) r1.2 (xn (aN ab.P f88.results.toList)):=
(bW ab 88 [a0,a1] m (fn:=f88) (c:=al f88) qeI rfl).trans (by kernel_rfl)
theorem Js(x1 x2 x6 x7 x8:AV)(m:ae)(K:KT):xq x1 x2 x6 x7 x8 m K =
 (af .other .lss x8 x1).bind fun v1=>
 au v1 (
 (aB 0 x2).bind fun v2=>
 (ai none m v2).bind fun v3=>
 (af .other .lss x6 v3).bind fun v4=>
 au v4 (
 (ai (some 3) m x2).bind fun v5=>
 (AC ab 115 [v5,x6,x8] m).bind fun r6=>
 (af .other .lss r6.1 (.int .i64 0)).bind fun v7=>
 au v7 (
 (af .other .add x8 (.int .i64 1)).bind fun v8=>
 xq x1 x2 x6 x7 v8 r6.2 K) (
 (af .other .neq r6.1 x6).bind fun v9=>
 au v9 (
 (ai (some 3) r6.2 x2).bind fun v10=>
 (AC ab 116 [v10,r6.1,x6] r6.2).bind fun iH=>
 (iI .not x7).bind fun aV=>
 (af .other .add x6 (.int .i64 1)).bind fun bL=>
 zC x1 x2 x6 aV x8 bL iH.2 (BD K)) (
 (af .other .add x6 (.int .i64 1)).bind fun bM=>
 zC x1 x2 x6 x7 x8 bM r6.2 (BD K)))) (
 K (.exit 0) (J2 x6 x7 m))) (
 K (.exit 0) (J2 x6 x7 m)):=
(eu (ed _) _ _ _).trans (by kernel_rfl)
theorem P3(x1 x2 x6 x7 x8 aT:AV)(m:ae)(K:KT):zC x1 x2 x6 x7 x8 aT m K =
 (aB 0 x2).bind fun v1=>
 (ai none m v1).bind fun v2=>
 (af .other .lss aT v2).bind fun v3=>
 au v3 (
 (ai (some 3) m x2).bind fun v4=>
 (AC ab 117 [v4,x6,aT,x8] m).bind fun r5=>
 (af .other .add aT (.int .i64 1)).bind fun v6=>
 zC x1 x2 x6 x7 x8 v6 r5.2 K) (
 K (.exit 2) (J1 x1 x2 x6 x7 x8 m)):=
(eu (ed _) _ _ _).trans (by kernel_rfl)
theorem EI(x6 x7:AV)(m:ae):xn (aN ab.P f88.results.toList) (.exit 0) (J2 x6 x7 m) =
 some ((.tup [x6,x7]),m):=by kernel_rfl
theorem qah(x1 x2 x6 x7 x8:AV)(m:ae)(K:KT):BD K (.exit 2) (J1 x1 x2 x6 x7 x8 m) =
 (af .other .add x6 (.int .i64 1)).bind fun v1=>
 (af .other .add x8 (.int .i64 1)).bind fun v2=>
 xq x1 x2 v1 x7 v2 m K:=by kernel_rfl
def Fw(x3 x4 x6 x7:AV)(m:ae):St:=⟨[.any,.any,.any,x3,x4,.any,x6,x7,.any,.any,.any,.any,.any,.any,.any,.any,.any,.any,.any,.any,.any,.any,.any,.any,.any,.any,.any,.any,.any,.any,.any,.any,.any,.any,.any,.any,.any,.any,.any,.any,.any,.any,.any,.any,.any,.any,.any,.any,.any,.any,.any,.any],m⟩
noncomputable def BT(x3 x4 x6 x7 aT:AV)(m:ae)(K:KT):OM:=bP (aq ab 92 (AP ab) (AC ab) (c1 (c1 (c2 (c1 (c2 (c2 (c2 (c2 (al f92)))))))))) (ab.mask 92 (some 7)) ⟨[.any,.any,.any,x3,x4,.any,x6,x7,.any,.any,aT,.any,.any,.any,.any,.any,.any,.any,.any,.any,.any,.any,.any,.any,.any,.any,.any,.any,.any,.any,.any,.any,.any,.any,.any,.any,.any,.any,.any,.any,.any,.any,.any,.any,.any,.any,.any,.any,.any,.any,.any,.any],m⟩ K
def Fv(x3 x4 x6 x7 aT:AV)(m:ae):St:=⟨[.any,.any,.any,x3,x4,.any,x6,x7,.any,.any,aT,.any,.any,.any,.any,.any,.any,.any,.any,.any,.any,.any,.any,.any,.any,.any,.any,.any,.any,.any,.any,.any,.any,.any,.any,.any,.any,.any,.any,.any,.any,.any,.any,.any,.any,.any,.any,.any,.any,.any,.any,.any],m⟩
noncomputable def BS(x3 x4 x6 x7 aT nD Br:AV)(m:ae)(K:KT):OM:=bP (aq ab 92 (AP ab) (AC ab) (c1 (c1 (c2 (c1 (c1 (c2 (c1 (c1 (c2 (c1 (c2 (c2 (c2 (c2 (al f92)))))))))))))))) (ab.mask 92 (some 10)) ⟨[.any,.any,.any,x3,x4,.any,x6,x7,.any,.any,aT,.any,.any,.any,.any,.any,.any,.any,.any,.any,.any,.any,.any,.any,.any,.any,.any,.any,.any,.any,.any,.any,.any,.any,.any,.any,.any,nD,Br,.any,.any,.any,.any,.any,.any,.any,.any,.any,.any,.any,.any,.any],m⟩ K
noncomputable abbrev qaG(K:KT):KT:=dQ (fun st=>aq ab 92 (AP ab) (AC ab) (c2 (c2 (c2 (c2 (c2 (al f92)))))) st K) K
noncomputable abbrev qaH(K:KT):KT:=dK 0 (qaG K)
noncomputable abbrev uf(K:KT):KT:=(qaH K)
noncomputable abbrev qaC(K:KT):KT:=dQ (fun st=>aq ab 92 (AP ab) (AC ab) (c2 (c2 (c1 (c1 (c2 (c1 (c2 (c2 (c2 (c2 (al f92))))))))))) st (fz (fun st=>bP (aq ab 92 (AP ab) (AC ab) (c1 (c1 (c2 (c1 (c2 (c2 (c2 (c2 (al f92)))))))))) (ab.mask 92 (some 7)) st K) (ab.mask 92 (some 7)) K)) (fz (fun st=>bP (aq ab 92 (AP ab) (AC ab) (c1 (c1 (c2 (c1 (c2 (c2 (c2 (c2 (al f92)))))))))) (ab.mask 92 (some 7)) st K) (ab.mask 92 (some 7)) K)
noncomputable abbrev qaD(K:KT):KT:=dK 1 (qaC K)
noncomputable abbrev qaE(K:KT):KT:=dK 2 (qaD K)
noncomputable abbrev BG(K:KT):KT:=(qaE K)
theorem T92(a0 a1:AV)(m:ae):AC ab 92 [a0,a1] m =
 (ef none (some 3) m a0).bind fun r1=>
 (ef none (some 3) r1.2 a1).bind fun r2=>
 (aB 0 r1.1).bind fun v3=>
 (ai none (ak none r2.2 (.obj true [(.int .i64 0),(.int .i64 0),(.lst none true .full [])])).2 v3).bind fun v4=>
 (aA none (ak none (ak none r2.2 (.obj true [(.int .i64 0),(.int .i64 0),(.lst none true .full [])])).2 (.obj true [(.int .i64 0)])).2 (.ptr (ak none (ak none r2.2 (.obj true [(.int .i64 0),(.int .i64 0),(.lst none true .full [])])).2 .resv).1 0) v4).bind fun m5=>
 (ai none m5 (.ptr (ak none (ak none r2.2 (.obj true [(.int .i64 0),(.int .i64 0),(.lst none true .full [])])).2 .resv).1 0)).bind fun v6=>
 (ai none m5 (.ptr (ak none (ak none r2.2 (.obj true [(.int .i64 0),(.int .i64 0),(.lst none true .full [])])).2 .resv).1 0)).bind fun v7=>
 (aB 1 r2.1).bind fun v8=>
 (ai none m5 v8).bind fun v9=>
 (af .other .add v7 v9).bind fun v10=>
 (nT (AC ab) m5 58 [v6,v10,(.fn 120 [(.ptr (ak none (ak none r2.2 (.obj true [(.int .i64 0),(.int .i64 0),(.lst none true .full [])])).2 .resv).1 0),r1.1,r2.1])]).bind fun iH=>
 (aA (some 3) (ak none iH.2 (.obj true [(.int .i64 0),(.int .i64 0),(.lst none true .full [])])).2 (.ptr (ak none iH.2 .resv).1 0) iH.1).bind fun m12=>
 (ai (some 3) m12 (.ptr (ak none iH.2 .resv).1 0)).bind fun bL=>
 (ai none m12 (.ptr (ak none (ak none r2.2 (.obj true [(.int .i64 0),(.int .i64 0),(.lst none true .full [])])).2 .resv).1 0)).bind fun bM=>
 (AC ab 88 [bL,bM] m12).bind fun rn=>
 (bg rn.1 0).bind fun bQ=>
 (bg rn.1 1).bind fun bV=>
 (ai none rn.2 (.ptr (ak none (ak none r2.2 (.obj true [(.int .i64 0),(.int .i64 0),(.lst none true .full [])])).2 .resv).1 0)).bind fun dU=>
 (af .other .lss bQ dU).bind fun dL=>
 au dL (
 (eI (.agg [(.int .i64 0),(.int .i64 0),(.lst none true .full [])]) []).bind fun v20=>
 (aA (some 3) rn.2 (.ptr (ak none r2.2 .resv).1 0) v20).bind fun m21=>
 (ai (some 3) m21 (.ptr (ak none r2.2 .resv).1 0)).bind fun dV=>
 some ((.tup [dV,(.bool false)]),m21)) (
 (ai none rn.2 (.ptr (ak none (ak none r2.2 (.obj true [(.int .i64 0),(.int .i64 0),(.lst none true .full [])])).2 .resv).1 0)).bind fun fS=>
 (af .other .sub fS (.int .i64 1)).bind fun gD=>
 BT r2.1 (.ptr (ak none r2.2 .resv).1 0) (.ptr (ak none (ak none r2.2 (.obj true [(.int .i64 0),(.int .i64 0),(.lst none true .full [])])).2 .resv).1 0) (.ptr (ak none iH.2 .resv).1 0) gD rn.2 (uf (aN ab.P f92.results.toList))):=
(bW ab 92 [a0,a1] m (fn:=f92) (c:=al f92) qeL rfl).trans (by kernel_rfl)
theorem Ju(x3 x4 x6 x7 aT:AV)(m:ae)(K:KT):BT x3 x4 x6 x7 aT m K =
 (af .other .geq aT (.int .i64 0)).bind fun v1=>
 au v1 (
 BS x3 x4 x6 x7 aT aT (.int .i64 0) m (BG K)) (
 K (.exit 0) (Fw x3 x4 x6 x7 m)):=
(eu (ed _) _ _ _).trans (by kernel_rfl)
theorem P8(x3 x4 x6 x7 aT nD Br:AV)(m:ae)(K:KT):BS x3 x4 x6 x7 aT nD Br m K =
 (af .other .lss Br nD).bind fun v1=>
 au v1 (
 (ai (some 3) m x7).bind fun v2=>
 (AC ab 117 [v2,aT,Br,aT] m).bind fun r3=>
 (af .other .add Br (.int .i64 1)).bind fun v4=>
 BS x3 x4 x6 x7 aT nD v4 r3.2 K) (
 K (.exit 2) (Fv x3 x4 x6 x7 aT m)):=
(eu (ed _) _ _ _).trans (by kernel_rfl)
theorem qaI(x3 x4 x6 x7:AV)(m:ae):uf (aN ab.P f92.results.toList) (.exit 0) (Fw x3 x4 x6 x7 m) =
 (ai none m x6).bind fun v1=>
 (aB 1 x3).bind fun v2=>
 (ai none m v2).bind fun v3=>
 (nT (AC ab) m 58 [v1,v3,(.fn 121 [x7,x6])]).bind fun r4=>
 (aA (some 3) r4.2 x4 r4.1).bind fun m5=>
 (ai (some 3) m5 x4).bind fun v6=>
 some ((.tup [v6,(.bool true)]),m5):=by kernel_rfl
theorem qaF(x3 x4 x6 x7 aT:AV)(m:ae)(K:KT):BG K (.exit 2) (Fv x3 x4 x6 x7 aT m) =
 (af .other .sub aT (.int .i64 1)).bind fun v1=>
 BT x3 x4 x6 x7 v1 m K:=by kernel_rfl
def Fs(x7:AV)(m:ae):St:=⟨[.any,.any,.any,.any,.any,.any,.any,x7,.any,.any,.any,.any,.any,.any,.any,.any,.any,.any,.any,.any,.any,.any,.any,.any,.any,.any,.any,.any,.any,.any,.any,.any,.any,.any,.any,.any,.any,.any,.any,.any,.any,.any,.any,.any,.any,.any,.any,.any,.any,.any,.any,.any,.any],m⟩
noncomputable def uh(x2 x3 x7 x8:AV)(m:ae)(K:KT):OM:=bP (aq ab 115 (AP ab) (AC ab) (c1 (c1 (c2 (c1 (c2 (c2 (al f115)))))))) (ab.mask 115 (some 3)) ⟨[.any,.any,x2,x3,.any,.any,.any,x7,x8,.any,.any,.any,.any,.any,.any,.any,.any,.any,.any,.any,.any,.any,.any,.any,.any,.any,.any,.any,.any,.any,.any,.any,.any,.any,.any,.any,.any,.any,.any,.any,.any,.any,.any,.any,.any,.any,.any,.any,.any,.any,.any,.any,.any],m⟩ K
noncomputable abbrev YL(K:KT):KT:=dQ (fun st=>aq ab 115 (AP ab) (AC ab) (c2 (c2 (c2 (al f115)))) st K) K
noncomputable abbrev YM(K:KT):KT:=dK 0 (YL K)
noncomputable abbrev I3(K:KT):KT:=(YM K)
theorem qbS(a0 a1 a2:AV)(m:ae):AC ab 115 [a0,a1,a2] m =
 (ef none (some 3) m a0).bind fun r1=>
 uh a2 r1.1 (.int .i64 (-1)) a1 r1.2 (I3 (aN ab.P f115.results.toList)):=
(bW ab 115 [a0,a1,a2] m (fn:=f115) (c:=al f115) qdB rfl).trans (by kernel_rfl)
theorem Py(x2 x3 x7 x8:AV)(m:ae)(K:KT):uh x2 x3 x7 x8 m K =
 (aB 0 x3).bind fun v1=>
 (ai none m v1).bind fun v2=>
 (af .other .lss x8 v2).bind fun v3=>
 au v3 (
 (aB 2 x3).bind fun v4=>
 (ai none m v4).bind fun v5=>
 (aB 1 x3).bind fun v6=>
 (ai none m v6).bind fun v7=>
 (af .other .mul x8 v7).bind fun v8=>
 (af .other .add v8 x2).bind fun v9=>
 (aJ (some 3) v5 v9).bind fun v10=>
 (ai (some 3) m v10).bind fun v11=>
 (aA (some 3) (ak none m (.obj true [(.bool false),(.lst none true .full []),(.lst none true .full [])])).2 (.ptr (ak none m .resv).1 0) v11).bind fun m12=>
 (aB 1 (.ptr (ak none m .resv).1 0)).bind fun bL=>
 (ai none m12 bL).bind fun bM=>
 (aY false bM).bind fun bz=>
 (af .other .gtr bz (.int .i64 0)).bind fun bQ=>
 au bQ (
 (af .other .lss x7 (.int .i64 0)).bind fun bV=>
 au bV (
 (af .other .add x8 (.int .i64 1)).bind fun dU=>
 uh x2 x3 x8 dU m12 K) (
 (ai (some 3) m12 (.ptr (ak none m .resv).1 0)).bind fun dL=>
 (ao (AP ab) (some m12.length) m12 134 [dL]).bind fun vn=>
 (aB 2 x3).bind fun eg=>
 (ai none vn.2 eg).bind fun dV=>
 (aB 1 x3).bind fun fS=>
 (ai none vn.2 fS).bind fun gD=>
 (af .other .mul x7 gD).bind fun fT=>
 (af .other .add fT x2).bind fun gW=>
 (aJ (some 3) dV gW).bind fun gL=>
 (ai (some 3) vn.2 gL).bind fun fU=>
 (ao (AP ab) (some m12.length) vn.2 134 [fU]).bind fun AY=>
 (af .other .lss vn.1 AY.1).bind fun v30=>
 au v30 (
 (af .other .add x8 (.int .i64 1)).bind fun ki=>
 uh x2 x3 x8 ki AY.2 K) (
 (af .other .add x8 (.int .i64 1)).bind fun kS=>
 uh x2 x3 x7 kS AY.2 K))) (
 (af .other .add x8 (.int .i64 1)).bind fun lA=>
 uh x2 x3 x7 lA m12 K)) (
 K (.exit 0) (Fs x7 m)):=
(eu (ed _) _ _ _).trans (by kernel_rfl)
theorem YN(x7:AV)(m:ae):I3 (aN ab.P f115.results.toList) (.exit 0) (Fs x7 m) =
 some (x7,m):=by kernel_rfl
def JF(m:ae):St:=⟨[.any,.any,.any,.any,.any,.any,.any,.any,.any,.any,.any,.any,.any,.any,.any,.any,.any,.any,.any,.any,.any,.any,.any,.any,.any,.any,.any,.any,.any,.any,.any,.any,.any,.any,.any,.any,.any,.any,.any,.any,.any,.any,.any,.any,.any,.any,.any,.any,.any,.any,.any],m⟩
noncomputable def BK(x1 x2 x3 x8 x9:AV)(m:ae)(K:KT):OM:=bP (aq ab 116 (AP ab) (AC ab) (c1 (c1 (c2 (c2 (al f116)))))) (ab.mask 116 (some 2)) ⟨[.any,x1,x2,x3,.any,.any,.any,.any,x8,x9,.any,.any,.any,.any,.any,.any,.any,.any,.any,.any,.any,.any,.any,.any,.any,.any,.any,.any,.any,.any,.any,.any,.any,.any,.any,.any,.any,.any,.any,.any,.any,.any,.any,.any,.any,.any,.any,.any,.any,.any,.any],m⟩ K
noncomputable abbrev YO(K:KT):KT:=dK 0 K
noncomputable abbrev Ey(K:KT):KT:=(YO K)
theorem qbT(a0 a1 a2:AV)(m:ae):AC ab 116 [a0,a1,a2] m =
 (ef none (some 3) m a0).bind fun r1=>
 (aB 1 r1.1).bind fun v2=>
 (ai none r1.2 v2).bind fun v3=>
 BK a1 a2 r1.1 v3 (.int .i64 0) r1.2 (Ey (aN ab.P f116.results.toList)):=
(bW ab 116 [a0,a1,a2] m (fn:=f116) (c:=al f116) qdC rfl).trans (by kernel_rfl)
theorem Pz(x1 x2 x3 x8 x9:AV)(m:ae)(K:KT):BK x1 x2 x3 x8 x9 m K =
 (af .other .lss x9 x8).bind fun v1=>
 au v1 (
 (aB 2 x3).bind fun v2=>
 (ai none m v2).bind fun v3=>
 (aB 1 x3).bind fun v4=>
 (ai none m v4).bind fun v5=>
 (af .other .mul x1 v5).bind fun v6=>
 (af .other .add v6 x9).bind fun v7=>
 (aB 2 x3).bind fun v8=>
 (ai none m v8).bind fun v9=>
 (aB 1 x3).bind fun v10=>
 (ai none m v10).bind fun v11=>
 (af .other .mul x2 v11).bind fun aV=>
 (af .other .add aV x9).bind fun bL=>
 (aB 2 x3).bind fun bM=>
 (ai none m bM).bind fun bz=>
 (aB 1 x3).bind fun bQ=>
 (ai none m bQ).bind fun bV=>
 (af .other .mul x2 bV).bind fun dU=>
 (af .other .add dU x9).bind fun dL=>
 (aJ (some 3) bz dL).bind fun v20=>
 (ai (some 3) m v20).bind fun eg=>
 (aB 2 x3).bind fun dV=>
 (ai none m dV).bind fun fS=>
 (aB 1 x3).bind fun gD=>
 (ai none m gD).bind fun fT=>
 (af .other .mul x1 fT).bind fun gW=>
 (af .other .add gW x9).bind fun gL=>
 (aJ (some 3) fS gL).bind fun fU=>
 (ai (some 3) m fU).bind fun jP=>
 (aJ (some 3) v3 v7).bind fun v30=>
 (aA (some 3) m v30 eg).bind fun m31=>
 (aJ (some 3) v9 bL).bind fun kS=>
 (aA (some 3) m31 kS jP).bind fun m33=>
 Mt (yN v8 v30) (
 Mt (yN v10 v30) (
 (af .other .add x9 (.int .i64 1)).bind fun pG=>
 BK x1 x2 x3 x8 pG m33 K))) (
 K (.exit 0) (JF m)):=
(eu (ed _) _ _ _).trans (by kernel_rfl)
theorem YP(m:ae):Ey (aN ab.P f116.results.toList) (.exit 0) (JF  m) =
 some ((.tup []),m):=by kernel_rfl
def JG(m:ae):St:=⟨[.any,.any,.any,.any,.any,.any,.any,.any,.any,.any,.any,.any,.any,.any,.any,.any,.any,.any,.any,.any,.any,.any,.any,.any,.any,.any,.any,.any,.any,.any,.any,.any,.any,.any,.any,.any,.any,.any,.any,.any,.any,.any,.any,.any,.any,.any,.any,.any,.any,.any,.any,.any,.any,.any,.any,.any,.any,.any,.any,.any,.any,.any,.any,.any,.any,.any,.any,.any,.any,.any,.any,.any,.any,.any,.any,.any,.any,.any,.any,.any,.any,.any,.any],m⟩
noncomputable def xp(x1 x2 x4 x8 rF pH:AV)(m:ae)(K:KT):OM:=bP (aq ab 117 (AP ab) (AC ab) (c1 (c1 (c2 (c2 (c2 (c2 (al f117)))))))) (ab.mask 117 (some 4)) ⟨[.any,x1,x2,.any,x4,.any,.any,.any,x8,.any,.any,.any,.any,.any,.any,.any,.any,.any,.any,.any,.any,.any,.any,.any,.any,.any,.any,.any,.any,.any,.any,.any,.any,.any,.any,.any,.any,.any,.any,.any,.any,rF,pH,.any,.any,.any,.any,.any,.any,.any,.any,.any,.any,.any,.any,.any,.any,.any,.any,.any,.any,.any,.any,.any,.any,.any,.any,.any,.any,.any,.any,.any,.any,.any,.any,.any,.any,.any,.any,.any,.any,.any,.any],m⟩ K
noncomputable abbrev YQ(K:KT):KT:=dK 0 K
noncomputable abbrev Ez(K:KT):KT:=(YQ K)
theorem qbU(a0 a1 a2 a3:AV)(m:ae):AC ab 117 [a0,a1,a2,a3] m =
 (ef none (some 3) m a0).bind fun r1=>
 (aB 2 r1.1).bind fun v2=>
 (ai none (eH r1.2 1) v2).bind fun v3=>
 (aB 1 r1.1).bind fun v4=>
 (ai none (eH r1.2 1) v4).bind fun v5=>
 (af .other .mul a2 v5).bind fun v6=>
 (af .other .add v6 a3).bind fun v7=>
 (aJ (some 3) v3 v7).bind fun v8=>
 (ai (some 3) (eH r1.2 1) v8).bind fun v9=>
 (aB 2 r1.1).bind fun v10=>
 (ai none (eH r1.2 1) v10).bind fun v11=>
 (aB 1 r1.1).bind fun aV=>
 (ai none (eH r1.2 1) aV).bind fun bL=>
 (af .other .mul a1 bL).bind fun bM=>
 (af .other .add bM a3).bind fun bz=>
 (aJ (some 3) v11 bz).bind fun bQ=>
 (ai (some 3) (eH r1.2 1) bQ).bind fun bV=>
 (ao (AP ab) (some r1.2.length) (eH r1.2 1) 122 [v9,bV]).bind fun gi=>
 (bg gi.1 0).bind fun dL=>
 (bg gi.1 1).bind fun v20=>
 (aA (some 3) (ak (some r1.2.length) gi.2 (.obj true [(.bool false),(.lst none true .full []),(.lst none true .full [])])).2 (.ptr (ak (some r1.2.length) gi.2 .resv).1 0) dL).bind fun m21=>
 (aB 1 (.ptr (ak (some r1.2.length) gi.2 .resv).1 0)).bind fun dV=>
 (ai none m21 dV).bind fun fS=>
 (aY false fS).bind fun gD=>
 (af .other .eql gD (.int .i64 0)).bind fun fT=>
 au fT (
 some ((.tup []),m21)) (
 (aB 1 r1.1).bind fun gW=>
 (ai none m21 gW).bind fun gL=>
 xp a1 a2 r1.1 (.ptr (ak (some r1.2.length) gi.2 .resv).1 0) gL (.int .i64 0) m21 (Ez (aN ab.P f117.results.toList))):=
(bW ab 117 [a0,a1,a2,a3] m (fn:=f117) (c:=al f117) qdD rfl).trans (by kernel_rfl)
theorem PA(x1 x2 x4 x8 rF pH:AV)(m:ae)(K:KT):xp x1 x2 x4 x8 rF pH m K =
 (af .other .lss pH rF).bind fun v1=>
 au v1 (
 (aB 2 x4).bind fun v2=>
 (ai none m v2).bind fun v3=>
 (aB 1 x4).bind fun v4=>
 (ai none m v4).bind fun v5=>
 (af .other .mul x1 v5).bind fun v6=>
 (af .other .add v6 pH).bind fun v7=>
 (aJ (some 3) v3 v7).bind fun v8=>
 (ai (some 3) m v8).bind fun v9=>
 (aA (some 3) (ak none m (.obj true [(.bool false),(.lst none true .full []),(.lst none true .full [])])).2 (.ptr (ak none m .resv).1 0) v9).bind fun m10=>
 (aB 1 (.ptr (ak none m .resv).1 0)).bind fun v11=>
 (ai none m10 v11).bind fun aV=>
 (aY false aV).bind fun bL=>
 (af .other .gtr bL (.int .i64 0)).bind fun bM=>
 au bM (
 (aB 2 x4).bind fun bz=>
 (ai none m10 bz).bind fun bQ=>
 (aB 1 x4).bind fun bV=>
 (ai none m10 bV).bind fun dU=>
 (af .other .mul x2 dU).bind fun dL=>
 (af .other .add dL pH).bind fun v20=>
 (aB 2 x4).bind fun eg=>
 (ai none m10 eg).bind fun dV=>
 (aB 1 x4).bind fun fS=>
 (ai none m10 fS).bind fun gD=>
 (af .other .mul x2 gD).bind fun fT=>
 (af .other .add fT pH).bind fun gW=>
 (aJ (some 3) dV gW).bind fun gL=>
 (ai (some 3) m10 gL).bind fun fU=>
 (ai (some 3) m10 x8).bind fun jP=>
 (ai (some 3) m10 (.ptr (ak none m .resv).1 0)).bind fun v30=>
 (ao (AP ab) (some m10.length) m10 78 [jP,v30]).bind fun qC=>
 (ao (AP ab) (some m10.length) qC.2 135 [fU,qC.1]).bind fun mU=>
 (aJ (some 3) bQ v20).bind fun lA=>
 (aA (some 3) mU.2 lA mU.1).bind fun m34=>
 (af .other .add pH (.int .i64 1)).bind fun lB=>
 xp x1 x2 x4 x8 rF lB m34 K) (
 (af .other .add pH (.int .i64 1)).bind fun ry=>
 xp x1 x2 x4 x8 rF ry m10 K)) (
 K (.exit 0) (JG m)):=
(eu (ed _) _ _ _).trans (by kernel_rfl)
theorem YR(m:ae):Ez (aN ab.P f117.results.toList) (.exit 0) (JG  m) =
 some ((.tup []),m):=by kernel_rfl
theorem qb8(a0:AV)(m:ae):AC ab 134 [a0] m =
 (ef none (some 3) m a0).bind fun r1=>
 (aB 1 r1.1).bind fun v2=>
 (ai none r1.2 v2).bind fun v3=>
 (ao (AP ab) (some r1.2.length) r1.2 139 [v3]).bind fun r4=>
 (aB 2 r1.1).bind fun v5=>
 (ai none r4.2 v5).bind fun v6=>
 (ao (AP ab) (some r1.2.length) r4.2 139 [v6]).bind fun r7=>
 (af .other .add r4.1 r7.1).bind fun v8=>
 some (v8,r7.2):=
(bW ab 134 [a0] m (fn:=f134) (c:=al f134) qdV rfl).trans (by kernel_rfl)
end Go.Ab
namespace Go.Ab
open Go.Proofs.Try
def JR(m:ae):St:=⟨[.any,.any,.any,.any,.any,.any,.any,.any,.any,.any,.any,.any,.any,.any,.any,.any,.any,.any,.any,.any,.any,.any,.any,.any,.any,.any,.any,.any,.any,.any,.any,.any,.any,.any,.any,.any,.any,.any,.any,.any,.any,.any,.any,.any,.any],m⟩
def Kf(x2:AV)(m:ae):St:=⟨[.any,.any,x2,.any,.any,.any,.any,.any,.any,.any,.any,.any,.any,.any,.any,.any,.any,.any,.any,.any,.any,.any,.any,.any,.any,.any,.any,.any,.any,.any,.any,.any,.any,.any,.any,.any,.any,.any,.any,.any,.any,.any,.any,.any,.any],m⟩
noncomputable def EZ(td te nD:AV)(m:ae)(K:KT):OM:=bP (aq ab 21 (AP ab) (AC ab) (c1 (c1 (c2 (c1 (c2 (c2 (al f21)))))))) (ab.mask 21 (some 4)) ⟨[.any,.any,.any,.any,.any,.any,.any,.any,.any,.any,.any,.any,.any,.any,.any,.any,.any,.any,.any,.any,.any,.any,.any,.any,.any,.any,.any,.any,.any,.any,.any,.any,.any,.any,.any,td,te,nD,.any,.any,.any,.any,.any,.any,.any],m⟩ K
noncomputable abbrev ZB(K:KT):KT:=dQ (fun st=>aq ab 21 (AP ab) (AC ab) (c2 (c2 (c2 (al f21)))) st K) K
noncomputable abbrev ZC(K:KT):KT:=dK 0 (ZB K)
noncomputable abbrev ED(K:KT):KT:=(ZC K)
theorem T21(a0:AV)(m:ae):AC ab 21 [a0] m =
 (ef none (some 3) m a0).bind fun r1=>
 (aB 0 r1.1).bind fun v2=>
 (ai none r1.2 v2).bind fun v3=>
 (af .other .lss v3 (.int .i64 0)).bind fun v4=>
 au v4 (
 some ((.bool false),r1.2)) (
 (aB 0 r1.1).bind fun v5=>
 (ai none r1.2 v5).bind fun v6=>
 (af .other .gtr v6 (.int .i64 60)).bind fun v7=>
 au v7 (
 some ((.bool false),r1.2)) (
 (aB 1 r1.1).bind fun v8=>
 (ai none r1.2 v8).bind fun v9=>
 (af .other .lss v9 (.int .i64 0)).bind fun v10=>
 au v10 (
 some ((.bool false),r1.2)) (
 (aB 1 r1.1).bind fun v11=>
 (ai none r1.2 v11).bind fun aV=>
 (af .other .gtr aV (.int .i64 60)).bind fun bL=>
 au bL (
 some ((.bool false),r1.2)) (
 (aB 2 r1.1).bind fun bM=>
 (ai none r1.2 bM).bind fun bz=>
 (aY false bz).bind fun bQ=>
 (aB 0 r1.1).bind fun bV=>
 (ai none r1.2 bV).bind fun dU=>
 (aB 1 r1.1).bind fun dL=>
 (ai none r1.2 dL).bind fun v20=>
 (af .other .mul dU v20).bind fun eg=>
 (af .other .neq bQ eg).bind fun dV=>
 au dV (
 some ((.bool false),r1.2)) (
 (aB 2 r1.1).bind fun fS=>
 (ai none r1.2 fS).bind fun gD=>
 (aY false gD).bind fun fT=>
 EZ gD fT (.int .i64 0) r1.2 (ED (aN ab.P f21.results.toList))))))):=
(bW ab 21 [a0] m (fn:=f21) (c:=al f21) qd4 rfl).trans (by kernel_rfl)
theorem PR(td te nD:AV)(m:ae)(K:KT):EZ td te nD m K =
 (af .other .lss nD te).bind fun v1=>
 au v1 (
 (aJ (some 3) td nD).bind fun v2=>
 (ai (some 3) m v2).bind fun v3=>
 (aA (some 3) (ak none m (.obj true [(.bool false),(.lst none true .full []),(.lst none true .full [])])).2 (.ptr (ak none m .resv).1 0) v3).bind fun m4=>
 (ai (some 3) m4 (.ptr (ak none m .resv).1 0)).bind fun v5=>
 (ao (AP ab) none m4 65 [v5]).bind fun r6=>
 (iI .not r6.1).bind fun v7=>
 au v7 (
 K .ret (Kf (.bool false) r6.2)) (
 (af .other .add nD (.int .i64 1)).bind fun v8=>
 EZ td te v8 r6.2 K)) (
 K (.exit 0) (JR m)):=
(eu (ed _) _ _ _).trans (by kernel_rfl)
theorem ZE(m:ae):ED (aN ab.P f21.results.toList) (.exit 0) (JR  m) =
 some ((.bool true),m):=by kernel_rfl
theorem ZD(x2:AV)(m:ae):ED (aN ab.P f21.results.toList) .ret (Kf x2 m) =
 some (x2,m):=by kernel_rfl
def JS(m:ae):St:=⟨[.any,.any,.any,.any,.any,.any,.any,.any,.any,.any,.any,.any,.any,.any,.any,.any,.any,.any,.any,.any,.any,.any,.any,.any,.any,.any,.any,.any,.any,.any,.any,.any,.any,.any,.any,.any,.any,.any,.any,.any,.any,.any,.any,.any,.any,.any],m⟩
def Kg(x4:AV)(m:ae):St:=⟨[.any,.any,.any,.any,x4,.any,.any,.any,.any,.any,.any,.any,.any,.any,.any,.any,.any,.any,.any,.any,.any,.any,.any,.any,.any,.any,.any,.any,.any,.any,.any,.any,.any,.any,.any,.any,.any,.any,.any,.any,.any,.any,.any,.any,.any,.any],m⟩
noncomputable def E0(x2 x3 tc lY:AV)(m:ae)(K:KT):OM:=bP (aq ab 40 (AP ab) (AC ab) (c1 (c1 (c2 (c1 (c2 (c2 (al f40)))))))) (ab.mask 40 (some 4)) ⟨[.any,.any,x2,x3,.any,.any,.any,.any,.any,.any,.any,.any,.any,.any,.any,.any,.any,.any,.any,.any,.any,.any,.any,.any,.any,.any,.any,.any,.any,tc,lY,.any,.any,.any,.any,.any,.any,.any,.any,.any,.any,.any,.any,.any,.any,.any],m⟩ K
noncomputable abbrev ZF(K:KT):KT:=dQ (fun st=>aq ab 40 (AP ab) (AC ab) (c2 (c2 (c2 (al f40)))) st K) K
noncomputable abbrev ZG(K:KT):KT:=dK 0 (ZF K)
noncomputable abbrev EE(K:KT):KT:=(ZG K)
theorem T40(a0 a1:AV)(m:ae):AC ab 40 [a0,a1] m =
 (ef none (some 3) m a0).bind fun r1=>
 (ef none (some 3) r1.2 a1).bind fun r2=>
 (aB 0 r1.1).bind fun v3=>
 (ai none r2.2 v3).bind fun v4=>
 (aB 0 r2.1).bind fun v5=>
 (ai none r2.2 v5).bind fun v6=>
 (af .other .neq v4 v6).bind fun v7=>
 au v7 (
 some ((.bool false),r2.2)) (
 (aB 1 r1.1).bind fun v8=>
 (ai none r2.2 v8).bind fun v9=>
 (aB 1 r2.1).bind fun v10=>
 (ai none r2.2 v10).bind fun v11=>
 (af .other .neq v9 v11).bind fun aV=>
 au aV (
 some ((.bool false),r2.2)) (
 (aB 2 r1.1).bind fun bL=>
 (ai none r2.2 bL).bind fun bM=>
 (aY false bM).bind fun bz=>
 (aB 2 r2.1).bind fun bQ=>
 (ai none r2.2 bQ).bind fun bV=>
 (aY false bV).bind fun dU=>
 (af .other .neq bz dU).bind fun dL=>
 au dL (
 some ((.bool false),r2.2)) (
 (aB 2 r1.1).bind fun v20=>
 (ai none r2.2 v20).bind fun eg=>
 (aY false eg).bind fun dV=>
 E0 r1.1 r2.1 dV (.int .i64 0) r2.2 (EE (aN ab.P f40.results.toList))))):=
(bW ab 40 [a0,a1] m (fn:=f40) (c:=al f40) qef rfl).trans (by kernel_rfl)
theorem PS(x2 x3 tc lY:AV)(m:ae)(K:KT):E0 x2 x3 tc lY m K =
 (af .other .lss lY tc).bind fun v1=>
 au v1 (
 (aB 2 x2).bind fun v2=>
 (ai none m v2).bind fun v3=>
 (aJ (some 3) v3 lY).bind fun v4=>
 (ai (some 3) m v4).bind fun v5=>
 (aB 2 x3).bind fun v6=>
 (ai none m v6).bind fun v7=>
 (aJ (some 3) v7 lY).bind fun v8=>
 (ai (some 3) m v8).bind fun v9=>
 (ao (AP ab) (some m.length) m 23 [v5,v9]).bind fun fR=>
 (iI .not fR.1).bind fun v11=>
 au v11 (
 K .ret (Kg (.bool false) fR.2)) (
 (af .other .add lY (.int .i64 1)).bind fun aV=>
 E0 x2 x3 tc aV fR.2 K)) (
 K (.exit 0) (JS m)):=
(eu (ed _) _ _ _).trans (by kernel_rfl)
theorem ZI(m:ae):EE (aN ab.P f40.results.toList) (.exit 0) (JS  m) =
 some ((.bool true),m):=by kernel_rfl
theorem ZH(x4:AV)(m:ae):EE (aN ab.P f40.results.toList) .ret (Kg x4 m) =
 some (x4,m):=by kernel_rfl
theorem Qv(a0:AV)(m:ae):AC ab 55 [a0] m =
 (ef none (some 3) m a0).bind fun r1=>
 (ai (some 3) (ak none r1.2 (.obj true [(.int .i64 0),(.int .i64 0),(.lst none true .full [])])).2 r1.1).bind fun v2=>
 (ao (AP ab) none (ak none r1.2 (.obj true [(.int .i64 0),(.int .i64 0),(.lst none true .full [])])).2 21 [v2]).bind fun r3=>
 (iI .not r3.1).bind fun v4=>
 au v4 (
 (eI (.agg [(.int .i64 0),(.int .i64 0),(.lst none true .full [])]) []).bind fun v5=>
 (aA (some 3) r3.2 (.ptr (ak none r1.2 .resv).1 0) v5).bind fun m6=>
 (ai (some 3) m6 (.ptr (ak none r1.2 .resv).1 0)).bind fun v7=>
 some ((.tup [v7,(.int .i64 1)]),m6)) (
 (aB 0 r1.1).bind fun v8=>
 (ai none r3.2 v8).bind fun v9=>
 (aB 1 r1.1).bind fun v10=>
 (ai none r3.2 v10).bind fun v11=>
 (af .other .neq v9 v11).bind fun aV=>
 au aV (
 (eI (.agg [(.int .i64 0),(.int .i64 0),(.lst none true .full [])]) []).bind fun bL=>
 (aA (some 3) r3.2 (.ptr (ak none r1.2 .resv).1 0) bL).bind fun m14=>
 (ai (some 3) m14 (.ptr (ak none r1.2 .resv).1 0)).bind fun bz=>
 some ((.tup [bz,(.int .i64 30)]),m14)) (
 (ai (some 3) r3.2 r1.1).bind fun bQ=>
 (aB 0 r1.1).bind fun bV=>
 (ai none r3.2 bV).bind fun dU=>
 (ao (AP ab) (some r3.2.length) r3.2 63 [dU]).bind fun sJ=>
 (ao (AP ab) (some r3.2.length) sJ.2 53 [bQ,sJ.1]).bind fun vn=>
 (bg vn.1 0).bind fun eg=>
 (bg vn.1 1).bind fun dV=>
 (aA (some 3) vn.2 (.ptr (ak none r1.2 .resv).1 0) eg).bind fun m23=>
 (ai (some 3) m23 (.ptr (ak none r1.2 .resv).1 0)).bind fun gD=>
 some ((.tup [gD,dV]),m23))):=
(bW ab 55 [a0] m (fn:=f55) (c:=al f55) qel rfl).trans (by kernel_rfl)
def JX(x4 x5:AV)(m:ae):St:=⟨[.any,.any,.any,.any,x4,x5,.any,.any,.any,.any,.any,.any,.any,.any,.any,.any,.any,.any,.any,.any,.any,.any,.any,.any],m⟩
noncomputable def E5(x0 x1 x4 x5 x6:AV)(m:ae)(K:KT):OM:=bP (aq ab 61 (AP ab) (AC ab) (c1 (c1 (c2 (c1 (c2 (c2 (al f61)))))))) (ab.mask 61 (some 3)) ⟨[x0,x1,.any,.any,x4,x5,x6,.any,.any,.any,.any,.any,.any,.any,.any,.any,.any,.any,.any,.any,.any,.any,.any,.any],m⟩ K
noncomputable abbrev Z0(K:KT):KT:=dQ (fun st=>aq ab 61 (AP ab) (AC ab) (c2 (c2 (c2 (al f61)))) st K) K
noncomputable abbrev Z1(K:KT):KT:=dK 0 (Z0 K)
noncomputable abbrev Jg(K:KT):KT:=(Z1 K)
theorem T61(a0 a1:AV)(m:ae):AC ab 61 [a0,a1] m =
 (eI (.agg [(.int .i64 0),(.int .i64 0),(.lst none true .full [])]) [(0,none,a0),(1,none,a1)]).bind fun v1=>
 (aA (some 3) (ak none (ak none m (.obj true [(.int .i64 0),(.int .i64 0),(.lst none true .full [])])).2 (.obj true [(.int .i64 0),(.int .i64 0),(.lst none true .full [])])).2 (.ptr (ak none (ak none m (.obj true [(.int .i64 0),(.int .i64 0),(.lst none true .full [])])).2 .resv).1 0) v1).bind fun m2=>
 E5 a0 a1 (.ptr (ak none m .resv).1 0) (.ptr (ak none (ak none m (.obj true [(.int .i64 0),(.int .i64 0),(.lst none true .full [])])).2 .resv).1 0) (.int .i64 0) m2 (Jg (aN ab.P f61.results.toList)):=
(bW ab 61 [a0,a1] m (fn:=f61) (c:=al f61) qeq rfl).trans (by kernel_rfl)
theorem P0(x0 x1 x4 x5 x6:AV)(m:ae)(K:KT):E5 x0 x1 x4 x5 x6 m K =
 (af .other .mul x0 x1).bind fun v1=>
 (af .other .lss x6 v1).bind fun v2=>
 au v2 (
 (aB 2 x5).bind fun v3=>
 (ai none (eH m 1) v3).bind fun v4=>
 (ao (AP ab) (some m.length) (eH m 1) 31 []).bind fun r5=>
 (iq (some 3) [r5.1]).bind fun v6=>
 (eG (some m.length) false 43 (some 3) 56 r5.2 v4 v6).bind fun r7=>
 (aB 2 x5).bind fun v8=>
 (aA none r7.2 v8 r7.1).bind fun m9=>
 (af .other .add x6 (.int .i64 1)).bind fun v10=>
 E5 x0 x1 x4 x5 v10 m9 K) (
 K (.exit 0) (JX x4 x5 m)):=
(eu (ed _) _ _ _).trans (by kernel_rfl)
theorem Z2(x4 x5:AV)(m:ae):Jg (aN ab.P f61.results.toList) (.exit 0) (JX x4 x5 m) =
 (ai (some 3) m x5).bind fun v1=>
 (aA (some 3) m x4 v1).bind fun m2=>
 (ai (some 3) m2 x4).bind fun v3=>
 some (v3,m2):=by kernel_rfl
def JY(x2 x3:AV)(m:ae):St:=⟨[.any,.any,x2,x3,.any,.any,.any,.any,.any,.any,.any,.any,.any,.any,.any,.any,.any,.any,.any,.any,.any,.any,.any],m⟩
noncomputable def E6(x0 x2 x3 x4:AV)(m:ae)(K:KT):OM:=bP (aq ab 63 (AP ab) (AC ab) (c1 (c1 (c2 (c1 (c2 (c2 (al f63)))))))) (ab.mask 63 (some 3)) ⟨[x0,.any,x2,x3,x4,.any,.any,.any,.any,.any,.any,.any,.any,.any,.any,.any,.any,.any,.any,.any,.any,.any,.any],m⟩ K
noncomputable abbrev Z3(K:KT):KT:=dQ (fun st=>aq ab 63 (AP ab) (AC ab) (c2 (c2 (c2 (al f63)))) st K) K
noncomputable abbrev Z4(K:KT):KT:=dK 0 (Z3 K)
noncomputable abbrev Jh(K:KT):KT:=(Z4 K)
theorem Qz(a0:AV)(m:ae):AC ab 63 [a0] m =
 (nT (AC ab) (ak none m (.obj true [(.int .i64 0),(.int .i64 0),(.lst none true .full [])])).2 61 [a0,a0]).bind fun r1=>
 (aA (some 3) (ak none r1.2 (.obj true [(.int .i64 0),(.int .i64 0),(.lst none true .full [])])).2 (.ptr (ak none r1.2 .resv).1 0) r1.1).bind fun m2=>
 E6 a0 (.ptr (ak none m .resv).1 0) (.ptr (ak none r1.2 .resv).1 0) (.int .i64 0) m2 (Jh (aN ab.P f63.results.toList)):=
(bW ab 63 [a0] m (fn:=f63) (c:=al f63) qes rfl).trans (by kernel_rfl)
theorem Jr(x0 x2 x3 x4:AV)(m:ae)(K:KT):E6 x0 x2 x3 x4 m K =
 (af .other .lss x4 x0).bind fun v1=>
 au v1 (
 (aB 2 x3).bind fun v2=>
 (ai none m v2).bind fun v3=>
 (af .other .mul x4 x0).bind fun v4=>
 (af .other .add v4 x4).bind fun v5=>
 (ao (AP ab) (some m.length) m 28 []).bind fun r6=>
 (aJ (some 3) v3 v5).bind fun v7=>
 (aA (some 3) r6.2 v7 r6.1).bind fun m8=>
 (af .other .add x4 (.int .i64 1)).bind fun v9=>
 E6 x0 x2 x3 v9 m8 K) (
 K (.exit 0) (JY x2 x3 m)):=
(eu (ed _) _ _ _).trans (by kernel_rfl)
theorem O7(x2 x3:AV)(m:ae):Jh (aN ab.P f63.results.toList) (.exit 0) (JY x2 x3 m) =
 (ai (some 3) m x3).bind fun v1=>
 (aA (some 3) m x2 v1).bind fun m2=>
 (ai (some 3) m2 x2).bind fun v3=>
 some (v3,m2):=by kernel_rfl
end Go.Ab
