/- What the interpreter does, function by function. -/
import Derived.Test.YtiipgpkgcdhbfaaGreatDoorEP2
import Derived.Test.YtiipgpkgcdhbfaaGreatDoorEP1
set_option maxRecDepth 100000
set_option linter.unusedVariables false
set_option linter.unusedSimpArgs false
set_option linter.unusedSectionVars false
namespace Go.Ab
noncomputable section
open Go.Proofs.Tryz
theorem T41 (a0 a1:AV) (m:af):AC ae 41 [a0,a1] m=(AC ae 104 [a0,a1,(.fn 106 [])] m).bind fun r1=>(ba r1.1 0).bind fun v2=>(ba r1.1 1).bind fun v3=>some ((.tup [v2,v3]),r1.2):=
(bh ae 41 [a0,a1] m (fn:=f41) (c:=aC f41) qiy rfl).trans (by kernel_rfl)
def Rr (x7:AV) (m:af):St:=⟨(aP (aO (aH (x7::br (aP (aH [])))))),m⟩
def Gj (x0 x6 x7 bW bY cr:AV) (m:af) (K:KT):OM:=b8 43 (ck (bo (c2 (aC f43)))) 8 (x0::aP (aH (x6::x7::aY (aP (aO (bW::bY::cr::bI (bD (aP [])))))))) m K
def KV (x0 x6 x7 aE bW bY cr:AV) (m:af):St:=⟨(x0::aP (aH (x6::x7::aO (aE::aY (aO (aH (bW::bY::cr::bI (bD (aP []))))))))),m⟩
def Ck (x0 x6 x7 aE bW bY cr rK rL qj:AV) (m:af) (K:KT):OM:=b8 43 (ck (lT (Av (nr (bo (aC f43)))))) 13 (x0::aP (aH (x6::x7::aO (aE::aY (aO (aH (bW::bY::cr::bD (aY (aP (aO (aH (rK::rL::qj::bD (aO []))))))))))))) m K
abbrev qdx (K:KT):KT:=bF 43 (bo (c2 (c2 (aC f43)))) K
abbrev qdy (K:KT):KT:=bu 0 (qdx K)
abbrev B6 (K:KT):KT:=(qdy K)
abbrev qds (K:KT):KT:=bF 43 (lT (nr (bo (aC f43)))) (oH 43 (ck (bo (c2 (aC f43)))) 8 K)
abbrev qdt (K:KT):KT:=bu 1 (qds K)
abbrev qdu (K:KT):KT:=bF 43 (bo (uO (ck (bo (c2 (aC f43)))))) (qdt K)
abbrev qdv (K:KT):KT:=bu 2 (qdu K)
abbrev B5 (K:KT):KT:=(qdv K)
theorem T43 (a0 a1:AV) (m:af):AC ae 43 [a0,a1] m=(AC ae 80 [a0] m).bind fun r1=>aw r1.1 (some ((.tup [au,(.int .i64 4)]),r1.2)) ((AC ae 81 [a0,a1] r1.2).bind fun r2=>(jg .not r2.1).bind fun v3=>aw v3 (some ((.tup [au,(.int .i64 1)]),r2.2)) ((AC ae 65 [a0,a1] (aA none r2.2 (.mp (.int .i64) [])).2).bind fun r4=>(aK false r4.1).bind fun v5=>Gj a0 (.mref (aA none r2.2 .resv).1) au r4.1 v5 (.int .i64 0) r4.2 (B6 (aF ae.P f43.results.toList)))):=
(bh ae 43 [a0,a1] m (fn:=f43) (c:=aC f43) qiz rfl).trans (by kernel_rfl)
theorem QT (x0 x6 x7 bW bY cr:AV) (m:af) (K:KT):Gj x0 x6 x7 bW bY cr m K=(ag .other .lss cr bY).bind fun v1=>aw v1 ((aG none bW cr).bind fun v2=>(ai none m v2).bind fun v3=>(kO (.int .i64) m x6 v3 cr).bind fun m4=>(iD x0).bind fun v5=>(aS 1 v5).bind fun v6=>(ai none (dG m4 1) v6).bind fun v7=>(aG (some 3) v7 v3).bind fun v8=>(aS 0 v8).bind fun v9=>(ai none (dG m4 1) v9).bind fun v10=>(iD x0).bind fun v11=>(aS 1 v11).bind fun v12=>(ai none (dG m4 1) v12).bind fun bp=>(aG (some 3) bp v3).bind fun bj=>(aS 2 bj).bind fun bn=>(ai none (dG m4 1) bn).bind fun bO=>(fR (.agg [(.int .i64 0),au,(.int .i64 0)]) [(0,none,v10),(2,none,bO)]).bind fun bB=>(aN (some 3) (aA (some m4.length) (dG m4 1) (.obj true [(.int .i64 0),au,(.int .i64 0)])).2 (.ptr (aA (some m4.length) (dG m4 1) .resv).1 0) bB).bind fun m18=>(iD x0).bind fun eU=>(aS 1 eU).bind fun v20=>(ai none m18 v20).bind fun v21=>(aG (some 3) v21 v3).bind fun v22=>(aS 1 v22).bind fun v23=>(ai none m18 v23).bind fun v24=>(aK false v24).bind fun v25=>Ck x0 x6 x7 (.ptr (aA (some m4.length) (dG m4 1) .resv).1 0) bW bY cr v24 v25 (.int .i64 0) m18 (B5 K)) (K (.exit 0) (Rr x7 m)):=
(b7 (bX _) _ _ _).trans (by kernel_rfl)
theorem QS (x0 x6 x7 aE bW bY cr rK rL qj:AV) (m:af) (K:KT):Ck x0 x6 x7 aE bW bY cr rK rL qj m K=(ag .other .lss qj rL).bind fun v1=>aw v1 ((aG none rK qj).bind fun v2=>(ai none m v2).bind fun v3=>(aS 1 aE).bind fun v4=>(ai none m v4).bind fun v5=>(oX (.int .i64) (.int .i64 0) m x6 v3).bind fun q6=>(fh none [q6.1]).bind fun v7=>(cg none false 3 none 8 m v5 v7).bind fun r8=>(aS 1 aE).bind fun v9=>(aN none r8.2 v9 r8.1).bind fun m10=>(ag .other .add qj (.int .i64 1)).bind fun v11=>Ck x0 x6 x7 aE bW bY cr rK rL v11 m10 K) (K (.exit 2) (KV x0 x6 x7 aE bW bY cr m)):=
(b7 (bX _) _ _ _).trans (by kernel_rfl)
theorem qdz (x7:AV) (m:af):B6 (aF ae.P f43.results.toList) (.exit 0) (Rr x7 m)=some ((.tup [x7,(.int .i64 0)]),m):=by kernel_rfl
theorem qdw (x0 x6 x7 aE bW bY cr:AV) (m:af) (K:KT):B5 K (.exit 2) (KV x0 x6 x7 aE bW bY cr m)=(ai (some 3) m aE).bind fun v1=>(fh (some 3) [v1]).bind fun v2=>(cg none false 74 (some 3) 40 m x7 v2).bind fun r3=>(ag .other .add cr (.int .i64 1)).bind fun v4=>Gj x0 x6 r3.1 bW bY v4 r3.2 K:=by kernel_rfl
theorem T44 (a0 a1:AV) (m:af):AC ae 44 [a0,a1] m=(eR none none m a0).bind fun r1=>(eR none none r1.2 a1).bind fun r2=>(ai none r2.2 r1.1).bind fun v3=>(AC ae 80 [v3] r2.2).bind fun r4=>aw r4.1 (some ((.tup [(.int .i64 0),(.int .i64 4)]),r4.2)) ((ai none r4.2 r1.1).bind fun v5=>(iD v5).bind fun v6=>(aS 0 v6).bind fun v7=>(ai none r4.2 v7).bind fun v8=>(ai none r4.2 r2.1).bind fun v9=>(aD (AP ae) (some r4.2.length) r4.2 107 [v8,v9]).bind fun iE=>(jg .not iE.1).bind fun v11=>aw v11 (some ((.tup [(.int .i64 0),(.int .i64 1)]),iE.2)) ((ai none iE.2 r1.1).bind fun v12=>(AC ae 84 [v12,(.fn 108 [r2.1,r1.1])] iE.2).bind fun fW=>(ba fW.1 0).bind fun bj=>(ba fW.1 1).bind fun bn=>some ((.tup [bj,bn]),fW.2))):=
(bh ae 44 [a0,a1] m (fn:=f44) (c:=aC f44) qiA rfl).trans (by kernel_rfl)
def Gy (x8:AV) (m:af):St:=⟨(aY (x8::bI (aY []))),m⟩
def vN (x0 x2 x8 jo bW bY:AV) (m:af) (K:KT):OM:=b8 104 (ck (bo (aC f104))) 7 (x0::aH (x2::aP (aH (x8::aY (aP (jo::bW::bY::bD (aY (aH [])))))))) m K
abbrev Z8 (K:KT):KT:=bF 104 (bo (c2 (aC f104))) K
abbrev Z9 (K:KT):KT:=bu 0 (Z8 K)
abbrev vL (K:KT):KT:=(Z9 K)
theorem qfa (a0 a1 a2:AV) (m:af):AC ae 104 [a0,a1,a2] m=(AC ae 80 [a0] m).bind fun r1=>aw r1.1 (some ((.tup [au,(.int .i64 4)]),r1.2)) ((AC ae 81 [a0,a1] r1.2).bind fun r2=>(jg .not r2.1).bind fun v3=>aw v3 (some ((.tup [au,(.int .i64 1)]),r2.2)) ((AC ae 65 [a0,a1] r2.2).bind fun r4=>(aK false r4.1).bind fun v5=>vN a0 a2 au r4.1 v5 (.int .i64 0) r4.2 (vL (aF ae.P f104.results.toList)))):=
(bh ae 104 [a0,a1,a2] m (fn:=f104) (c:=aC f104) qhm rfl).trans (by kernel_rfl)
theorem P7 (x0 x2 x8 jo bW bY:AV) (m:af) (K:KT):vN x0 x2 x8 jo bW bY m K=(ag .other .lss bY bW).bind fun v1=>aw v1 ((aG none jo bY).bind fun v2=>(ai none m v2).bind fun v3=>(iD x0).bind fun v4=>(aS 1 v4).bind fun v5=>(ai none m v5).bind fun v6=>(aG (some 3) v6 v3).bind fun v7=>(ai (some 3) m v7).bind fun v8=>(lp x2).bind fun g9=>jU ae 104 (AP ae) (AC ae) none g9.1 ([v8]++g9.2) m fun v10 m11=>(ba v10 0).bind fun v12=>(ba v10 1).bind fun bp=>aw bp ((fh none [v12]).bind fun bj=>(cg none true 3 none 8 m11 x8 bj).bind fun nL=>(ag .other .add bY (.int .i64 1)).bind fun bO=>vN x0 x2 nL.1 jo bW bO nL.2 K) ((ag .other .add bY (.int .i64 1)).bind fun bB=>vN x0 x2 x8 jo bW bB m11 K)) (K (.exit 0) (Gy x8 m)):=
(b7 (bX _) _ _ _).trans (by kernel_rfl)
theorem qaa (x8:AV) (m:af):vL (aF ae.P f104.results.toList) (.exit 0) (Gy x8 m)=(zj [x8] m).bind fun r1=>(xZ [x8] r1.2).bind fun r2=>some ((.tup [r2.1,(.int .i64 0)]),r2.2):=by kernel_rfl
end
end Go.Ab
namespace Go.Ab
open Go.Proofs Go.Proofs.Tryz
theorem SM {z1 z2:Bool} {o1 o2:Own} {k1 k2:List Int} (hl:k1.length=k2.length) (ja:k1.length<=100000) (m:af):∀ j i:Nat,i+j=k1.length ->
  FY (IA z1 o1 k1) (IA z2 o2 k2) (.int .i64 k1.length) (.int .i64 i) m (Fk (aF ae.P f144.results.toList))=some (.bool (decide (k1.drop i=k2.drop i)),m)
 | 0,i,h=>by
  rw[Qu,bg,aa,az,aj (by omega),jA (by omega),jA (by omega),qbQ];rfl
 | j+1,i,h=>by
  have hi:i < k1.length:=by omega
  have hi2:i < k2.length:=by omega
  have ih:=SM (z1:=z1) (z2:=z2) (o1:=o1) (o2:=o2) hl ja m j (i+1) (by omega);rw[Qu,bg,aa,az,an (by omega),j6 hi,aa,gz,aa,j6 hi2,aa,gz,aa,iY,aa,az,kP hi,kP hi2]
  by_cases he:k1[i]=k2[i]
  ·rw[aj (by simpa using he),cG (by omega),aa,ih];congr 3;exact jD.2 (by rw[he];exact ⟨fun e=>by rw[e],fun e=>(List.cons.inj e).2⟩)
  ·rw[an he,qbP];congr 3;exact (dk (fun e=>he (List.cons.inj e).1)).symm
theorem qpJ (z1 z2:Bool) (o1 o2:Own) (k1 k2:List Int) (ja:k1.length<=100000):AP ae 144 [IA z1 o1 k1,IA z2 o2 k2]=some (.bool (decide (k1=k2))):=by
 refine iH (m:=[]) (v:=.bool (decide (k1=k2))) (l:=[]) ?_ rfl rfl;rw[qfy,iI,aa,iI,aa,iY,aa,az]
 by_cases hl:k1.length=k2.length
 ·rw[aj (by omega),aa,show (AV.int .i64 0)=.int .i64 ((0:Nat):Int) from rfl,SM hl ja [] k1.length 0 (by omega),jT,jT]
 ·rw[an (by omega)];congr 3;exact (dk (fun e=>hl (by rw[e]))).symm
theorem qnB (z1 z2:Bool) (o1 o2:Own) (k1 k2:List Int) (ja:k1.length<=100000) (m:af):aD (AP ae) none m 144 [IA z1 o1 k1,IA z2 o2 k2]=some (.bool (decide (k1=k2)),m):=by
 rw[fP (nA z1 o1 k1) (nA z2 o2 k2),qpJ z1 z2 _ _ k1 k2 ja];rfl
theorem ZD (z:Bool) (o:Own) (k0:Int) (ks:List Int) (hl:(k0::ks).length<=1000) (m:af):∀ j i:Nat,i+j=(k0::ks).length ->
  FX (IA z o (k0::ks)) (IA z o (k0::ks)) (.int .i64 (k0::ks).length) (.int .i64 i) m (Fj (aF ae.P f143.results.toList))=some (.bool (((k0::ks).drop i).all fun k=>k == k0),m)
 | 0,i,h=>by
  rw[Qt,bg,aa,az,aj (by omega),jA (by omega),qbM];rfl
 | j+1,i,h=>by
  have hi:i < (k0::ks).length:=by omega
  rw[Qt,bg,aa,az,an (by omega),j6 hi,aa,gz,aa,D5 (by simp),aa,gz,aa,iY,aa,az,kP hi,nX]
  by_cases he:(k0::ks)[i]=k0
  ·rw[aj (by simpa using he),cG (by omega),aa,ZD z o k0 ks hl m j (i+1) (by omega),show ((k0::ks)[i] == k0)=true by simpa using he,il]
  ·rw[an (by simpa using he),qbL,show ((k0::ks)[i] == k0)=false by simpa using he,lQ]
theorem qpI (z:Bool) (o:Own) (ks:List Int) (hne:ks≠[]) (hl:ks.length<=1000):AP ae 143 [IA z o ks]=some (.bool (ks.all fun k=>k == ks.headD 0)):=by
 obtain ⟨k0,ks,rfl⟩:=List.exists_cons_of_ne_nil hne;refine iH (m:=[]) (v:=.bool ((k0::ks).all fun k=>k == k0)) (l:=[]) ?_ rfl rfl;rw[qfx,iI,aa,show (AV.int .i64 0)=.int .i64 ((0:Nat):Int) from rfl,ZD z o k0 ks hl [] (k0::ks).length 0 (by omega),jT]
theorem qnA (z:Bool) (o:Own) (ks:List Int) (hne:ks≠[]) (hl:ks.length<=1000) (m:af):aD (AP ae) none m 143 [IA z o ks]=some (.bool (ks.all fun k=>k == ks.headD 0),m):=by
 rw[cw (nA z o ks),qpI z _ ks hne hl];rfl
def qhl (cs:List Int):Nat->Nat:=fun v=>(cs.getD v 0).toNat
theorem WI (m:af) (k:Nat):∀ ds:List Int,fD (bH m (k+1)) (ds.map (AV.int .i64))=some (ds.map (AV.int .i64),[])
 | []=>rfl
 | d::ds=>by
  have:bH m (k+1) (AV.int .i64 d)=some (AV.int .i64 d,[]):=rfl;simp[fD,this,WI m k ds]
theorem XK:∀ ds:List Int,mg (ds.map (AV.int .i64))=true
 | []=>rfl
 | d::ds=>by
  have:pl (AV.int .i64 d)=true:=rfl;simp[mg,this,XK ds]
theorem qkr {m:af} {nm:Nat} {ds:List Int} (h:m.get nm=some (.obj false (ds.map (AV.int .i64)))):bH m km (.arr nm 0 ds.length none)=some (IA false .no ds,[nm]):=by
 have h1:((ds.map (AV.int .i64)).all ff)=true:=by simp[List.all_map,ff]
 have hg:m.obj? nm=some (false,ds.map (AV.int .i64)):=by rw[p9,h];rfl
 show (m.obj? nm).bind _=_;rw[hg];simp only[aa,Sh.size,bU,bf,mq,aR,decide_true,nT,pg,bq,jT,kY (by simp:(ds.map (AV.int .i64)).length<=ds.length)];rw[WI];simp only[aa,h1,XK,pg,bq,lW];rw[kY (by simp)]
theorem O3 {m:af} {nm i:Nat} {ds:List Int} {y:Int} (h:m.get nm=some (.obj false (ds.map (AV.int .i64)))) (hi:i < ds.length):aN none m (.ptr nm i) (.int .i64 y)=some (m.set nm (some (.obj false ((ds.set i y).map (AV.int .i64))))):=by
 have hg:m.obj? nm=some (false,ds.map (AV.int .i64)):=by rw[p9,h];rfl
 have h1:i+1<=ds.length:=hi;simp only[aN,hg,aa,Sh.size,bU,h1,bq,cZ,ff,AV.cells];congr 4;simp only[bC,aJ,aM];rw[List.map_set,CA];simp[hi,xL,List.map_drop]
structure Asn (ar:List Int) (i:Nat) (cs:List Int):Prop where
 len:cs.length=ar.length
 bd:∀ v,v < ar.length->0<=cs.getD v 0/\cs.getD v 0 < ar.getD v 0
 idx:p7 ar 0 (qhl cs)=i
structure AL (n:Nat) (m0 m:af) (x:AV) (nms:List Nat) (css:List (List Int)):Prop where
 len:nms.length=css.length
 row:∀ k (h1:k < nms.length) (h2:k < css.length),m.get nms[k]=some (.obj false (css[k].map (AV.int .i64)))/\css[k].length=n
 nd:nms.Nodup
 lo:∀ a∈nms,m0.length<=a
 kp:m0.length<=m.length/\∀ k,k < m0.length->m.get k=m0.get k
 x:(x=au/\nms=[])\/∃ t,x=.arr t 0 nms.length none/\0 < nms.length/\m.get t=some (.obj false (nms.map fun a=>.arr a 0 n none))/\m0.length<=t/\t∉nms
section
variable {m:af} {s:Nat} {F:List Nat} {most:Int} {l:List ND} {zs z:Bool} {os o:Own} {ar:List Int} {cs:List Int}
end
end Go.Ab
namespace Go.Ab
noncomputable section
open Go.Proofs.Tryz
theorem T66 (a0 a1:AV) (m:af):AC ae 66 [a0,a1] m=(aK false a0).bind fun v1=>(AC ae 125 [a0,v1,a1] m).bind fun r2=>some ((.tup []),r2.2):=
(bh ae 66 [a0,a1] m (fn:=f66) (c:=aC f66) qiO rfl).trans (by kernel_rfl)
def Re (x0 x1 x2 x6 x7:AV) (m:af):St:=⟨(x0::x1::x2::aO (aH (x6::x7::bI (bD (aP (aO (aH []))))))),m⟩
def Cd (x0 x1 x2 x6 x7 x8:AV) (m:af) (K:KT):OM:=b8 125 (nq (c2 (aC f125))) 2 (x0::x1::x2::aO (aH (x6::x7::x8::bI (bD (aP (aO [])))))) m K
def Rf (m:af):St:=⟨(bI (bD (aY (aP (aO (aH [])))))),m⟩
def vO (x0 x1 x2 x6:AV) (m:af) (K:KT):OM:=b8 125 (uO (c2 (c2 (aC f125)))) 7 (x0::x1::x2::aO (aH (x6::bI (bD (aY []))))) m K
def Rg (x0 x1 x2 x6 x7:AV) (m:af):St:=⟨(x0::x1::x2::aO (aH (x6::x7::bI (bD (aP (aO (aH []))))))),m⟩
def FN (x0 x1 x2 x6 x7 x8:AV) (m:af) (K:KT):OM:=b8 125 (nq (Ht (bo (aC f125)))) 9 (x0::x1::x2::aO (aH (x6::x7::x8::bI (bD (aP (aO [])))))) m K
abbrev qaW (K:KT):KT:=bF 125 (c2 (c2 (c2 (aC f125)))) K
abbrev qaX (K:KT):KT:=bu 0 (qaW K)
abbrev Ff (K:KT):KT:=(qaX K)
abbrev qa1 (K:KT):KT:=bu 3 (oH 125 (uO (c2 (c2 (aC f125)))) 7 K)
abbrev qa2 (K:KT):KT:=bF 125 (LM (uO (c2 (c2 (aC f125))))) (qa1 K)
abbrev qa3 (K:KT):KT:=bu 4 (qa2 K)
abbrev JN (K:KT):KT:=(qa3 K)
abbrev qaZ (K:KT):KT:=bu 2 K
abbrev xC (K:KT):KT:=(qaZ K)
theorem qfk (a0 a1 a2:AV) (m:af):AC ae 125 [a0,a1,a2] m=Cd a0 a1 a2 (.int .i64 20) (.int .i64 0) (.int .i64 20) m (Ff (aF ae.P f125.results.toList)):=
(bh ae 125 [a0,a1,a2] m (fn:=f125) (c:=aC f125) qhB rfl).trans (by kernel_rfl)
theorem Qe (x0 x1 x2 x6 x7 x8:AV) (m:af) (K:KT):Cd x0 x1 x2 x6 x7 x8 m K=(ag .other .leq x8 x1).bind fun v1=>aw v1 ((AC ae 165 [x0,x7,x8,x2] m).bind fun r2=>(ag .other .add x8 x6).bind fun v3=>Cd x0 x1 x2 x6 x8 v3 r2.2 K) (K (.exit 0) (Re x0 x1 x2 x6 x7 m)):=
(b7 (bX _) _ _ _).trans (by kernel_rfl)
theorem Qf (x0 x1 x2 x6:AV) (m:af) (K:KT):vO x0 x1 x2 x6 m K=(ag .other .lss x6 x1).bind fun v1=>aw v1 ((ag .other .mul (.int .i64 2) x6).bind fun v2=>FN x0 x1 x2 x6 (.int .i64 0) v2 m (JN K)) (K (.exit 2) (Rf m)):=
(b7 (bX _) _ _ _).trans (by kernel_rfl)
theorem Qg (x0 x1 x2 x6 x7 x8:AV) (m:af) (K:KT):FN x0 x1 x2 x6 x7 x8 m K=(ag .other .leq x8 x1).bind fun v1=>aw v1 ((ag .other .add x7 x6).bind fun v2=>(AC ae 166 [x0,x7,v2,x8,x2] m).bind fun r3=>(ag .other .mul (.int .i64 2) x6).bind fun v4=>(ag .other .add x8 v4).bind fun v5=>FN x0 x1 x2 x6 x8 v5 r3.2 K) (K (.exit 4) (Rg x0 x1 x2 x6 x7 m)):=
(b7 (bX _) _ _ _).trans (by kernel_rfl)
theorem qaY (x0 x1 x2 x6 x7:AV) (m:af):Ff (aF ae.P f125.results.toList) (.exit 0) (Re x0 x1 x2 x6 x7 m)=(AC ae 165 [x0,x7,x1,x2] m).bind fun r1=>vO x0 x1 x2 x6 r1.2 (xC (aF ae.P f125.results.toList)):=by kernel_rfl
theorem qa4 (x0 x1 x2 x6 x7:AV) (m:af) (K:KT):JN K (.exit 4) (Rg x0 x1 x2 x6 x7 m)=(ag .other .add x7 x6).bind fun v1=>(ag .other .lss v1 x1).bind fun v2=>aw v2 ((AC ae 166 [x0,x7,v1,x1,x2] m).bind fun r3=>(ag .other .mul x6 (.int .i64 2)).bind fun v4=>vO x0 x1 x2 v4 r3.2 K) ((ag .other .mul x6 (.int .i64 2)).bind fun v5=>vO x0 x1 x2 v5 m K):=by kernel_rfl
theorem qa0 (m:af):xC (aF ae.P f125.results.toList) (.exit 2) (Rf  m)=some ((.tup []),m):=by kernel_rfl
def Rm (m:af):St:=⟨(bI (bD (aP (aH [])))),m⟩
def F3 (x0 x1 x2 x3 x8:AV) (m:af) (K:KT):OM:=b8 165 (c1 (c1 (c2 (aC f165)))) 1 (x0::x1::x2::x3::aP (x8::bI (aY (aP [])))) m K
def CD (x0 x1 x2 x3 x8:AV) (m:af):St:=⟨(x0::x1::x2::x3::aP (x8::bI (aY (aP [])))),m⟩
def zP (x0 x1 x2 x3 x8 x9:AV) (m:af) (K:KT):OM:=b8 165 (ck (Ht (c2 (aC f165)))) 4 (x0::x1::x2::x3::aP (x8::x9::bI (aY (aO (aH []))))) m K
abbrev qbY (K:KT):KT:=bu 0 K
abbrev Fl (K:KT):KT:=(qbY K)
abbrev qbZ (K:KT):KT:=bF 165 (lS (c2 (aC f165))) (oH 165 (c1 (c1 (c2 (aC f165)))) 1 K)
abbrev qb0 (K:KT):KT:=bu 1 (qbZ K)
abbrev qb1 (K:KT):KT:=bu 2 (qb0 K)
abbrev JV (K:KT):KT:=(qb1 K)
theorem RK (a0 a1 a2 a3:AV) (m:af):AC ae 165 [a0,a1,a2,a3] m=(ag .other .add a1 (.int .i64 1)).bind fun v1=>F3 a0 a1 a2 a3 v1 m (Fl (aF ae.P f165.results.toList)):=
(bh ae 165 [a0,a1,a2,a3] m (fn:=f165) (c:=aC f165) qh5 rfl).trans (by kernel_rfl)
theorem Kh (x0 x1 x2 x3 x8:AV) (m:af) (K:KT):F3 x0 x1 x2 x3 x8 m K=(ag .other .lss x8 x2).bind fun v1=>aw v1 (zP x0 x1 x2 x3 x8 x8 m (JV K)) (K (.exit 0) (Rm m)):=
(b7 (bX _) _ _ _).trans (by kernel_rfl)
theorem Qx (x0 x1 x2 x3 x8 x9:AV) (m:af) (K:KT):zP x0 x1 x2 x3 x8 x9 m K=(ag .other .gtr x9 x1).bind fun v1=>aw v1 ((aG none x0 x9).bind fun v2=>(ai none m v2).bind fun v3=>(ag .other .sub x9 (.int .i64 1)).bind fun v4=>(aG none x0 v4).bind fun v5=>(ai none m v5).bind fun v6=>(lp x3).bind fun g7=>jU ae 165 (AP ae) (AC ae) none g7.1 ([v3,v6]++g7.2) m fun v8 m9=>(ag .other .lss v8 (.int .i64 0)).bind fun v10=>aw v10 ((ag .other .sub x9 (.int .i64 1)).bind fun v11=>(ag .other .sub x9 (.int .i64 1)).bind fun v12=>(aG none x0 v12).bind fun bp=>(ai none m9 bp).bind fun bj=>(aG none x0 x9).bind fun bn=>(ai none m9 bn).bind fun bO=>(aG none x0 x9).bind fun bB=>(aN none m9 bB bj).bind fun m18=>(aG none x0 v11).bind fun eU=>(aN none m18 eU bO).bind fun m20=>(ag .other .sub x9 (.int .i64 1)).bind fun v21=>zP x0 x1 x2 x3 x8 v21 m20 K) (K (.exit 2) (CD x0 x1 x2 x3 x8 m9))) (K (.exit 2) (CD x0 x1 x2 x3 x8 m)):=
(b7 (bX _) _ _ _).trans (by kernel_rfl)
theorem P1 (m:af):Fl (aF ae.P f165.results.toList) (.exit 0) (Rm  m)=some ((.tup []),m):=by kernel_rfl
theorem qb2 (x0 x1 x2 x3 x8:AV) (m:af) (K:KT):JV K (.exit 2) (CD x0 x1 x2 x3 x8 m)=(ag .other .add x8 (.int .i64 1)).bind fun v1=>F3 x0 x1 x2 x3 v1 m K:=by kernel_rfl
def KF (x0 x1 aE:AV) (m:af):St:=⟨(x0::x1::aY (aE::br (br (br (bD (aH [])))))),m⟩
def vQ (x0 x1 x4 aE aW:AV) (m:af) (K:KT):OM:=b8 166 (nq (Dc (aC f166))) 3 (x0::x1::aO (x4::aP (aH (aE::aW::br (br (br (bD []))))))) m K
def Ro (m:af):St:=⟨(br (br (br (bD (aY (aP [])))))),m⟩
def F9 (x0 aE aV:AV) (m:af) (K:KT):OM:=b8 166 (ck (lT (c2 (c1 (aC f166))))) 9 (x0::aY (aH (aE::aO (aV::br (br (br (aY (aP (aO []))))))))) m K
def KE (x0 x2 aX:AV) (m:af):St:=⟨(x0::aH (x2::aY (aO (aH (aX::br (br (br (aY (aP (aH [])))))))))),m⟩
def vP (x0 x2 x4 aX fw:AV) (m:af) (K:KT):OM:=b8 166 (nq (Dc (c2 (aC f166)))) 15 (x0::aH (x2::aH (x4::aY (aH (aX::fw::br (br (br (aY (aP []))))))))) m K
def Rn (m:af):St:=⟨(br (br (br (bD (aY (aP [])))))),m⟩
def F7 (x0 aX eZ:AV) (m:af) (K:KT):OM:=b8 166 (ck (lT (c2 (c1 (c2 (aC f166)))))) 21 (x0::aY (aP (aH (aX::aO (eZ::br (br (br (aY (aO []))))))))) m K
def GI (x0 x1 x2 x3 x4 dz gM iF:AV) (m:af):St:=⟨(x0::x1::x2::x3::x4::aY (aP (aH (dz::gM::iF::br (br (br (aP (aO (aH []))))))))),m⟩
def qR (x0 x1 x2 x3 x4 dz gM iF jo bW:AV) (m:af) (K:KT):OM:=b8 166 (nq (bo (c2 (c2 (aC f166))))) 33 (x0::x1::x2::x3::x4::aY (aP (aH (dz::gM::iF::jo::bW::br (br (br (aP (aH [])))))))) m K
abbrev qce (K:KT):KT:=bF 166 (c2 (aC f166)) K
abbrev qcf (K:KT):KT:=bF 166 (lT (c2 (c1 (aC f166)))) (qce K)
abbrev qcg (K:KT):KT:=bu 0 (qcf K)
abbrev JY (K:KT):KT:=(qcg K)
abbrev qb3 (K:KT):KT:=bF 166 (c2 (c2 (aC f166))) K
abbrev qb4 (K:KT):KT:=bF 166 (lT (c2 (c1 (c2 (aC f166))))) (qb3 K)
abbrev qb5 (K:KT):KT:=bu 4 (qb4 K)
abbrev JW (K:KT):KT:=(qb5 K)
abbrev qcb (K:KT):KT:=bF 166 (bo (bo (aC f166))) K
abbrev qcc (K:KT):KT:=bu 8 (qcb K)
abbrev vM (K:KT):KT:=(qcc K)
abbrev qci (K:KT):KT:=bF 166 (c2 (aC f166)) K
abbrev qcj (K:KT):KT:=bF 166 (bo (c1 (c2 (c1 (aC f166))))) (qci K)
abbrev qck (K:KT):KT:=bu 2 (qcj K)
abbrev JZ (K:KT):KT:=(qck K)
abbrev qb7 (K:KT):KT:=bF 166 (c2 (c2 (aC f166))) K
abbrev qb8 (K:KT):KT:=bF 166 (bo (nr (aC f166))) (qb7 K)
abbrev qb9 (K:KT):KT:=bu 6 (qb8 K)
abbrev JX (K:KT):KT:=(qb9 K)
theorem qfJ (a0 a1 a2 a3 a4:AV) (m:af):AC ae 166 [a0,a1,a2,a3,a4] m=(ag .other .sub a2 a1).bind fun v1=>(ag .other .eql v1 (.int .i64 1)).bind fun v2=>aw v2 (vQ a0 a1 a4 a2 a3 m (JY (aF ae.P f166.results.toList))) ((ag .other .sub a3 a2).bind fun v3=>(ag .other .eql v3 (.int .i64 1)).bind fun v4=>aw v4 (vP a0 a2 a4 a1 a2 m (JW (aF ae.P f166.results.toList))) ((ag .other .add a1 a3).bind fun v5=>(bm .u64 v5).bind fun v6=>(ag .other .shr v6 (.int .u64 1)).bind fun v7=>(bm .i64 v7).bind fun v8=>(ag .other .add v8 a2).bind fun v9=>(ag .other .gtr a2 v8).bind fun v10=>aw v10 ((ag .other .sub v9 a3).bind fun v11=>(ag .other .sub v9 (.int .i64 1)).bind fun v12=>qR a0 a1 a2 a3 a4 v8 v9 v11 v8 v12 m (vM (aF ae.P f166.results.toList))) ((ag .other .sub v9 (.int .i64 1)).bind fun bp=>qR a0 a1 a2 a3 a4 v8 v9 a1 a2 bp m (vM (aF ae.P f166.results.toList))))):=
(bh ae 166 [a0,a1,a2,a3,a4] m (fn:=f166) (c:=aC f166) qh6 rfl).trans (by kernel_rfl)
theorem QB (x0 x1 x4 aE aW:AV) (m:af) (K:KT):vQ x0 x1 x4 aE aW m K=(ag .other .lss aE aW).bind fun v1=>aw v1 ((ag .other .add aE aW).bind fun v2=>(bm .u64 v2).bind fun v3=>(ag .other .shr v3 (.int .u64 1)).bind fun v4=>(bm .i64 v4).bind fun v5=>(aG none x0 v5).bind fun v6=>(ai none m v6).bind fun v7=>(aG none x0 x1).bind fun v8=>(ai none m v8).bind fun v9=>(lp x4).bind fun g10=>jU ae 166 (AP ae) (AC ae) none g10.1 ([v7,v9]++g10.2) m fun v11 m12=>(ag .other .lss v11 (.int .i64 0)).bind fun bp=>aw bp ((ag .other .add v5 (.int .i64 1)).bind fun bj=>vQ x0 x1 x4 bj aW m12 K) (vQ x0 x1 x4 aE v5 m12 K)) (K (.exit 0) (KF x0 x1 aE m)):=
(b7 (bX _) _ _ _).trans (by kernel_rfl)
theorem QC (x0 aE aV:AV) (m:af) (K:KT):F9 x0 aE aV m K=(ag .other .sub aE (.int .i64 1)).bind fun v1=>(ag .other .lss aV v1).bind fun v2=>aw v2 ((ag .other .add aV (.int .i64 1)).bind fun v3=>(ag .other .add aV (.int .i64 1)).bind fun v4=>(aG none x0 v4).bind fun v5=>(ai none m v5).bind fun v6=>(aG none x0 aV).bind fun v7=>(ai none m v7).bind fun v8=>(aG none x0 aV).bind fun v9=>(aN none m v9 v6).bind fun m10=>(aG none x0 v3).bind fun v11=>(aN none m10 v11 v8).bind fun m12=>(ag .other .add aV (.int .i64 1)).bind fun bp=>F9 x0 aE bp m12 K) (K (.exit 2) (Ro m)):=
(b7 (bX _) _ _ _).trans (by kernel_rfl)
theorem Qy (x0 x2 x4 aX fw:AV) (m:af) (K:KT):vP x0 x2 x4 aX fw m K=(ag .other .lss aX fw).bind fun v1=>aw v1 ((ag .other .add aX fw).bind fun v2=>(bm .u64 v2).bind fun v3=>(ag .other .shr v3 (.int .u64 1)).bind fun v4=>(bm .i64 v4).bind fun v5=>(aG none x0 x2).bind fun v6=>(ai none m v6).bind fun v7=>(aG none x0 v5).bind fun v8=>(ai none m v8).bind fun v9=>(lp x4).bind fun g10=>jU ae 166 (AP ae) (AC ae) none g10.1 ([v7,v9]++g10.2) m fun v11 m12=>(ag .other .lss v11 (.int .i64 0)).bind fun bp=>(jg .not bp).bind fun bj=>aw bj ((ag .other .add v5 (.int .i64 1)).bind fun bn=>vP x0 x2 x4 bn fw m12 K) (vP x0 x2 x4 aX v5 m12 K)) (K (.exit 4) (KE x0 x2 aX m)):=
(b7 (bX _) _ _ _).trans (by kernel_rfl)
theorem Qz (x0 aX eZ:AV) (m:af) (K:KT):F7 x0 aX eZ m K=(ag .other .gtr eZ aX).bind fun v1=>aw v1 ((ag .other .sub eZ (.int .i64 1)).bind fun v2=>(ag .other .sub eZ (.int .i64 1)).bind fun v3=>(aG none x0 v3).bind fun v4=>(ai none m v4).bind fun v5=>(aG none x0 eZ).bind fun v6=>(ai none m v6).bind fun v7=>(aG none x0 eZ).bind fun v8=>(aN none m v8 v5).bind fun m9=>(aG none x0 v2).bind fun v10=>(aN none m9 v10 v7).bind fun m11=>(ag .other .sub eZ (.int .i64 1)).bind fun v12=>F7 x0 aX v12 m11 K) (K (.exit 6) (Rn m)):=
(b7 (bX _) _ _ _).trans (by kernel_rfl)
theorem QA (x0 x1 x2 x3 x4 dz gM iF jo bW:AV) (m:af) (K:KT):qR x0 x1 x2 x3 x4 dz gM iF jo bW m K=(ag .other .lss iF jo).bind fun v1=>aw v1 ((ag .other .add iF jo).bind fun v2=>(bm .u64 v2).bind fun v3=>(ag .other .shr v3 (.int .u64 1)).bind fun v4=>(bm .i64 v4).bind fun v5=>(ag .other .sub bW v5).bind fun v6=>(aG none x0 v6).bind fun v7=>(ai none m v7).bind fun v8=>(aG none x0 v5).bind fun v9=>(ai none m v9).bind fun v10=>(lp x4).bind fun g11=>jU ae 166 (AP ae) (AC ae) none g11.1 ([v8,v10]++g11.2) m fun v12 m13=>(ag .other .lss v12 (.int .i64 0)).bind fun bj=>(jg .not bj).bind fun bn=>aw bn ((ag .other .add v5 (.int .i64 1)).bind fun bO=>qR x0 x1 x2 x3 x4 dz gM bO jo bW m13 K) (qR x0 x1 x2 x3 x4 dz gM iF v5 bW m13 K)) (K (.exit 8) (GI x0 x1 x2 x3 x4 dz gM iF m)):=
(b7 (bX _) _ _ _).trans (by kernel_rfl)
theorem qch (x0 x1 aE:AV) (m:af):JY (aF ae.P f166.results.toList) (.exit 0) (KF x0 x1 aE m)=F9 x0 aE x1 m (JZ (aF ae.P f166.results.toList)):=by kernel_rfl
theorem qb6 (x0 x2 aX:AV) (m:af):JW (aF ae.P f166.results.toList) (.exit 4) (KE x0 x2 aX m)=F7 x0 aX x2 m (JX (aF ae.P f166.results.toList)):=by kernel_rfl
theorem qcd (x0 x1 x2 x3 x4 dz gM iF:AV) (m:af):vM (aF ae.P f166.results.toList) (.exit 8) (GI x0 x1 x2 x3 x4 dz gM iF m)=(ag .other .sub gM iF).bind fun v1=>(ag .other .lss iF x2).bind fun v2=>aw v2 ((ag .other .lss x2 v1).bind fun v3=>aw v3 ((AC ae 186 [x0,iF,x2,v1,x4] m).bind fun r4=>(ag .other .lss x1 iF).bind fun v5=>aw v5 ((ag .other .lss iF dz).bind fun v6=>aw v6 ((AC ae 166 [x0,x1,iF,dz,x4] r4.2).bind fun r7=>(ag .other .lss dz v1).bind fun v8=>aw v8 ((ag .other .lss v1 x3).bind fun v9=>aw v9 ((AC ae 166 [x0,dz,v1,x3,x4] r7.2).bind fun iE=>some ((.tup []),iE.2)) (some ((.tup []),r7.2))) (some ((.tup []),r7.2))) ((ag .other .lss dz v1).bind fun v11=>aw v11 ((ag .other .lss v1 x3).bind fun v12=>aw v12 ((AC ae 166 [x0,dz,v1,x3,x4] r4.2).bind fun fW=>some ((.tup []),fW.2)) (some ((.tup []),r4.2))) (some ((.tup []),r4.2)))) ((ag .other .lss dz v1).bind fun bj=>aw bj ((ag .other .lss v1 x3).bind fun bn=>aw bn ((AC ae 166 [x0,dz,v1,x3,x4] r4.2).bind fun gV=>some ((.tup []),gV.2)) (some ((.tup []),r4.2))) (some ((.tup []),r4.2)))) ((ag .other .lss x1 iF).bind fun bB=>aw bB ((ag .other .lss iF dz).bind fun fk=>aw fk ((AC ae 166 [x0,x1,iF,dz,x4] m).bind fun oZ=>(ag .other .lss dz v1).bind fun v20=>aw v20 ((ag .other .lss v1 x3).bind fun v21=>aw v21 ((AC ae 166 [x0,dz,v1,x3,x4] oZ.2).bind fun I1=>some ((.tup []),I1.2)) (some ((.tup []),oZ.2))) (some ((.tup []),oZ.2))) ((ag .other .lss dz v1).bind fun v23=>aw v23 ((ag .other .lss v1 x3).bind fun v24=>aw v24 ((AC ae 166 [x0,dz,v1,x3,x4] m).bind fun kC=>some ((.tup []),kC.2)) (some ((.tup []),m))) (some ((.tup []),m)))) ((ag .other .lss dz v1).bind fun v26=>aw v26 ((ag .other .lss v1 x3).bind fun jK=>aw jK ((AC ae 166 [x0,dz,v1,x3,x4] m).bind fun Et=>some ((.tup []),Et.2)) (some ((.tup []),m))) (some ((.tup []),m))))) ((ag .other .lss x1 iF).bind fun j9=>aw j9 ((ag .other .lss iF dz).bind fun v30=>aw v30 ((AC ae 166 [x0,x1,iF,dz,x4] m).bind fun oG=>(ag .other .lss dz v1).bind fun mN=>aw mN ((ag .other .lss v1 x3).bind fun oI=>aw oI ((AC ae 166 [x0,dz,v1,x3,x4] oG.2).bind fun qd=>some ((.tup []),qd.2)) (some ((.tup []),oG.2))) (some ((.tup []),oG.2))) ((ag .other .lss dz v1).bind fun ml=>aw ml ((ag .other .lss v1 x3).bind fun vI=>aw vI ((AC ae 166 [x0,dz,v1,x3,x4] m).bind fun qH=>some ((.tup []),qH.2)) (some ((.tup []),m))) (some ((.tup []),m)))) ((ag .other .lss dz v1).bind fun qO=>aw qO ((ag .other .lss v1 x3).bind fun rH=>aw rH ((AC ae 166 [x0,dz,v1,x3,x4] m).bind fun r40=>some ((.tup []),r40.2)) (some ((.tup []),m))) (some ((.tup []),m)))):=by kernel_rfl
theorem qcl (m:af):JZ (aF ae.P f166.results.toList) (.exit 2) (Ro  m)=some ((.tup []),m):=by kernel_rfl
theorem qca (m:af):JX (aF ae.P f166.results.toList) (.exit 6) (Rn  m)=some ((.tup []),m):=by kernel_rfl
def Rp (x0 x2 x4 aE:AV) (m:af):St:=⟨(x0::aH (x2::aH (x4::aP (aH (aE::bI (aY (aP (aO (aH []))))))))),m⟩
def Cg (x0 x2 x4 aE aW:AV) (m:af) (K:KT):OM:=b8 186 (nq (c2 (aC f186))) 2 (x0::aH (x2::aH (x4::aP (aH (aE::aW::bI (aY (aP (aO [])))))))) m K
abbrev qcI (K:KT):KT:=bF 186 (c2 (c2 (c2 (aC f186)))) K
abbrev qcJ (K:KT):KT:=bu 0 (qcI K)
abbrev J2 (K:KT):KT:=(qcJ K)
theorem qfR (a0 a1 a2 a3 a4:AV) (m:af):AC ae 186 [a0,a1,a2,a3,a4] m=(ag .other .sub a2 a1).bind fun v1=>(ag .other .sub a3 a2).bind fun v2=>Cg a0 a2 a4 v1 v2 m (J2 (aF ae.P f186.results.toList)):=
(bh ae 186 [a0,a1,a2,a3,a4] m (fn:=f186) (c:=aC f186) qij rfl).trans (by kernel_rfl)
theorem Kj (x0 x2 x4 aE aW:AV) (m:af) (K:KT):Cg x0 x2 x4 aE aW m K=(ag .other .neq aE aW).bind fun v1=>aw v1 ((ag .other .gtr aE aW).bind fun v2=>aw v2 ((ag .other .sub x2 aE).bind fun v3=>(AC ae 201 [x0,v3,x2,aW,x4] m).bind fun r4=>(ag .other .sub aE aW).bind fun v5=>Cg x0 x2 x4 v5 aW r4.2 K) ((ag .other .sub x2 aE).bind fun v6=>(ag .other .add x2 aW).bind fun v7=>(ag .other .sub v7 aE).bind fun v8=>(AC ae 201 [x0,v6,v8,aE,x4] m).bind fun r9=>(ag .other .sub aW aE).bind fun v10=>Cg x0 x2 x4 aE v10 r9.2 K)) (K (.exit 0) (Rp x0 x2 x4 aE m)):=
(b7 (bX _) _ _ _).trans (by kernel_rfl)
theorem qcK (x0 x2 x4 aE:AV) (m:af):J2 (aF ae.P f186.results.toList) (.exit 0) (Rp x0 x2 x4 aE m)=(ag .other .sub x2 aE).bind fun v1=>(AC ae 201 [x0,v1,x2,aE,x4] m).bind fun r2=>some ((.tup []),r2.2):=by kernel_rfl
def Rq (m:af):St:=⟨(bI (aP (aO []))),m⟩
def Gg (x0 x1 x2 x3 aE:AV) (m:af) (K:KT):OM:=b8 201 (c1 (c1 (c2 (aC f201)))) 1 (x0::x1::x2::x3::aP (aO (aE::bD (aY (aO (aH [])))))) m K
abbrev qdh (K:KT):KT:=bu 0 K
abbrev J9 (K:KT):KT:=(qdh K)
theorem qfU (a0 a1 a2 a3 a4:AV) (m:af):AC ae 201 [a0,a1,a2,a3,a4] m=Gg a0 a1 a2 a3 (.int .i64 0) m (J9 (aF ae.P f201.results.toList)):=
(bh ae 201 [a0,a1,a2,a3,a4] m (fn:=f201) (c:=aC f201) qin rfl).trans (by kernel_rfl)
theorem QO (x0 x1 x2 x3 aE:AV) (m:af) (K:KT):Gg x0 x1 x2 x3 aE m K=(ag .other .lss aE x3).bind fun v1=>aw v1 ((ag .other .add x1 aE).bind fun v2=>(ag .other .add x2 aE).bind fun v3=>(ag .other .add x2 aE).bind fun v4=>(aG none x0 v4).bind fun v5=>(ai none m v5).bind fun v6=>(ag .other .add x1 aE).bind fun v7=>(aG none x0 v7).bind fun v8=>(ai none m v8).bind fun v9=>(aG none x0 v2).bind fun v10=>(aN none m v10 v6).bind fun m11=>(aG none x0 v3).bind fun v12=>(aN none m11 v12 v9).bind fun m13=>(ag .other .add aE (.int .i64 1)).bind fun bj=>Gg x0 x1 x2 x3 bj m13 K) (K (.exit 0) (Rq m)):=
(b7 (bX _) _ _ _).trans (by kernel_rfl)
theorem qdi (m:af):J9 (aF ae.P f201.results.toList) (.exit 0) (Rq  m)=some ((.tup []),m):=by kernel_rfl
end
end Go.Ab
namespace Go.Ab
open Go.Proofs Go.Proofs.Tryz
abbrev ni (n:Nat):AV:=.int .i64 (n:Int)
def ds (l:List Nat):List AV:=(l.map Int.ofNat).map (AV.int .i64)
theorem LZ (l:List Nat):(ds l).length=l.length:=by simp[ds]
theorem HD {l:List Nat} {i x:Nat} (h:l[i]?=some x):(ds l)[i]?=some (ni x):=by simp[ds,h]
theorem qj9 (l:List Nat) (i x:Nat):(ds l).set i (ni x)=ds (l.set i x):=by simp[ds,List.map_set]
structure SD (m0:af) (nm N L:Nat) (m:af) (l:List Nat):Prop where
 fr:Fr m0 m [nm]
 hd:m.get nm=some (.obj false (ds l))
 hl:l.length=L
 hN:∀ x∈l,x < N
def ql (m0:af) (nm N:Nat) (p:AV) (f:Nat->Int):Prop:=∀ m,Fr m0 m [nm]->∀ x y:Nat,x < N->y < N->∃ m',AC ae 67 [ni x,ni y,p] m=some (.int .i64 (f x - f y),m')/\Fr m m' []
section
variable {m0:af} {nm N L:Nat} {m:af} {l:List Nat}
theorem SD.ld (h:SD m0 nm N L m l) {i x:Nat} (hi:l[i]?=some x):ai none m (.ptr nm i)=some (ni x):=by
 rw[eY,h.hd,j7,aa,uP];exact HD hi
theorem SD.ld' (h:SD m0 nm N L m l) {i:Nat} (hi:i < L):ai none m (.ptr nm i)=some (ni (l.getD i 0))/\l.getD i 0 < N:=by
 have cq:i < l.length:=by rw[h.hl];exact hi
 have e:l[i]?=some (l.getD i 0):=by rw[aT,bA cq];rfl
 exact ⟨h.ld e,h.hN _ (List.mem_of_getElem? e)⟩
theorem SD.st (h:SD m0 nm N L m l) {i x:Nat} (hi:i < l.length):aN none m (.ptr nm i) (ni x)=some (m.set nm (some (.obj false (ds (l.set i x))))):=by
 have hg:m.obj? nm=some (false,ds l):=by rw[p9,h.hd];rfl
 have h1:i+1<=l.length:=hi;simp only[aN,hg,aa,Sh.size,LZ,h1,bq,cZ,ff,AV.cells];congr 4;rw[<- qj9,bC,CA,an (by rw[LZ];exact hi)];simp
theorem SD.cmp (h:SD m0 nm N L m l) {p:AV} {f:Nat->Int} (hc:ql m0 nm N p f) {x y:Nat} (hx:x < N) (hy:y < N):∃ m',AC ae 67 ([ni x,ni y]++[p]) m=some (.int .i64 (f x - f y),m')/\SD m0 nm N L m' l:=by
 obtain ⟨m',e,k⟩:=hc m h.fr x y hx hy;refine ⟨m',e,Fr.trans h.fr k (fun _ h=>by cases h),?_,h.hl,h.hN⟩;rw[k.get nm (bJ h.hd) (by simp)];exact h.hd
theorem qpp {P M Q:List Nat} {x y:Nat}:(P++x::(M++y::Q))[P.length]?=some x/\(P++x::(M++y::Q))[P.length+1+M.length]?=some y /\
  ((P++x::(M++y::Q)).set P.length y).set (P.length+1+M.length) x=P++y::(M++x::Q)/\((P++x::(M++y::Q)).set (P.length+1+M.length) x).set P.length y=P++y::(M++x::Q):=by
 have a:∀ (P':List Nat) (u v:Nat) (R:List Nat),(P'++u::R)[P'.length]?=some u/\(P'++u::R).set P'.length v=P'++v::R:=fun P' u v R=>by
  constructor
  ·simp
  ·induction P' with
   | nil=>rfl
   | cons c P' ih=>simp
 have e1:P++x::(M++y::Q)=(P++x::M)++y::Q:=by simp
 have e2:P++y::(M++y::Q)=(P++y::M)++y::Q:=by simp
 have l1:P.length+1+M.length=(P++x::M).length:=by simp;omega
 have l2:P.length+1+M.length=(P++y::M).length:=by simp;omega
 refine ⟨(a P x y _).1,?_,?_,?_⟩
 ·rw[e1,l1];exact (a (P++x::M) y x Q).1
 ·rw[(a P x y (M++y::Q)).2,e2,l2,(a (P++y::M) y x Q).2];simp
 ·rw[e1,l1,(a (P++x::M) y x Q).2];have:(P++x::M)++x::Q=P++x::(M++x::Q):=by simp
  rw[this,(a P x y _).2]
theorem SD.put (h:SD m0 nm N L m l) {l':List Nat} (hp:l'.Perm l) (hlen:l'.length=l.length) {m':af} (fr:Fr m m' [nm]) (hd:m'.get nm=some (.obj false (ds l'))):SD m0 nm N L m' l':=
 ⟨Fr.trans h.fr fr (fun x hx=>.inl hx),hd,hlen.trans h.hl,fun x hx=>h.hN x (hp.mem_iff.1 hx)⟩
theorem SD.swap {P M Q:List Nat} {x y i j:Nat} (h:SD m0 nm N L m (P++x::(M++y::Q))) (hi:i=P.length) (hj:j=P.length+1+M.length) :
  ai none m (.ptr nm i)=some (ni x)/\ai none m (.ptr nm j)=some (ni y) /\
  (∃ m1 m2,aN none m (.ptr nm i) (ni y)=some m1/\aN none m1 (.ptr nm j) (ni x)=some m2/\SD m0 nm N L m2 (P++y::(M++x::Q))) /\
  (∃ m1 m2,aN none m (.ptr nm j) (ni x)=some m1/\aN none m1 (.ptr nm i) (ni y)=some m2/\SD m0 nm N L m2 (P++y::(M++x::Q))):=by
 subst hi hj;obtain ⟨a1,a2,a3,a4⟩:=qpp (P:=P) (M:=M) (Q:=Q) (x:=x) (y:=y);have hlt:=bJ h.hd;have li:P.length < (P++x::(M++y::Q)).length:=by simp
 have lj:P.length+1+M.length < (P++x::(M++y::Q)).length:=by simp;omega
 have hp:(P++y::(M++x::Q)).Perm (P++x::(M++y::Q)):=by
  refine Cu P ?_;have e:∀ u v:Nat,(u::(M++v::Q)).Perm (u::v::(M++Q)):=fun u v=>List.Perm.cons u List.perm_middle;exact (e y x).trans ((List.Perm.swap x y _).trans (e x y).symm)
 have go:∀ (i j u v:Nat),i < (P++x::(M++y::Q)).length->j < (P++x::(M++y::Q)).length->u < N->((P++x::(M++y::Q)).set i u).set j v=P++y::(M++x::Q) ->
   ∃ m1 m2,aN none m (.ptr nm i) (ni u)=some m1/\aN none m1 (.ptr nm j) (ni v)=some m2/\SD m0 nm N L m2 (P++y::(M++x::Q)):=by
  intro i j u v hi hj hu he
  refine ⟨_,(m.set nm (some (.obj false (ds ((P++x::(M++y::Q)).set i u))))).set nm (some (.obj false (ds (P++y::(M++x::Q))))),h.st hi,?_,?_⟩
  ·have h':SD m0 nm N L (m.set nm (some (.obj false (ds ((P++x::(M++y::Q)).set i u))))) ((P++x::(M++y::Q)).set i u):=by
    refine ⟨h.fr.set _ (.inl (by simp)),dM rfl hlt,by rw[aZ];exact h.hl,fun z hz=>?_⟩
    rcases List.mem_or_eq_of_mem_set hz with hz | rfl
    ·exact h.hN z hz
    ·exact hu
   rw[h'.st (by rw[aZ];exact hj),he]
  ·exact h.put hp (by simp) (((Fr.refl m [nm]).set _ (.inl (by simp))).set _ (.inl (by simp))) (dM rfl (by rw[aZ];exact hlt))
 have hx:=h.hN x (by simp);have hy:=h.hN y (by simp);exact ⟨h.ld a1,h.ld a2,go _ _ _ _ li lj hy a3,go _ _ _ _ lj li hx a4⟩
end
section
variable {m0:af} {nm N L:Nat} {p:AV} {f:Nat->Int}
theorem qgK (hL:L<=100000) (x4:AV) {pre mid post:List Nat} (a b n:Nat) (ha:a=pre.length) (hb:b=a+n+mid.length):∀ (X2 Y2 X1 Y1:List Nat) (m:af),X2.length=Y2.length->X1.length=Y1.length->X1.length+X2.length=n ->
  SD m0 nm N L m (pre++(Y1++(X2++(mid++(X1++(Y2++post)))))) ->
  ∃ m',Gg (.arr nm 0 L none) (ni a) (ni b) (ni n) (ni X1.length) m (J9 (aF ae.P f201.results.toList))=some (.tup [],m')/\SD m0 nm N L m' (pre++((Y1++Y2)++(mid++((X1++X2)++post)))):=by
 intro X2
 induction X2 with
 | nil=>
  intro Y2 X1 Y1 m h2 h1 hn h;have:Y2=[]:=nY (by simpa using h2.symm);subst this;refine ⟨m,?_,by simpa using h⟩;rw[QO,bg,aa,az,aj (by simp at hn;omega),qdi]
 | cons x X2 ih=>
  intro Y2 X1 Y1 m h2 h1 hn h
  cases Y2 with
  | nil=>simp at h2
  | cons y Y2=>
   simp only[aJ] at h2 hn;have hl:=h.hl;simp only[aI,aJ] at hl;have h':SD m0 nm N L m ((pre++Y1)++x::((X2++(mid++X1))++y::(Y2++post))):=by simpa using h
   obtain ⟨l1,l2,⟨m1,m2,s1,s2,k⟩,_⟩:=h'.swap (i:=a+X1.length) (j:=b+X1.length) (by simp;omega) (by simp;omega);obtain ⟨m',e,k'⟩:=ih Y2 (X1++[x]) (Y1++[y]) m2 (by omega) (by simp[h1]) (by simp;omega) (by simpa using k);refine ⟨m',?_,by simpa using k'⟩;have ia:aG none (.arr nm 0 L none) (ni (a+X1.length))=some (.ptr nm (a+X1.length)):=fU (by omega);have ib:aG none (.arr nm 0 L none) (ni (b+X1.length))=some (.ptr nm (b+X1.length)):=fU (by omega);rw[QO,bg,aa,az,an (by omega),kM (by omega),aa,kM (by omega),aa,aa,ib,aa,l2,aa,aa,ia,aa,l1,aa,aa,s1,aa,aa,s2,aa,cG (by omega),aa];rw[aI,tj] at e;exact e
theorem Jx (hL:L<=100000) (x4:AV) {pre mid post X Y:List Nat} {m:af} (hXY:X.length=Y.length) (h:SD m0 nm N L m (pre++(X++(mid++(Y++post))))) {a b n:Nat} (ha:a=pre.length) (hn:n=X.length) (hb:b=a+n+mid.length) :
  ∃ m',AC ae 201 [.arr nm 0 L none,ni a,ni b,ni n,x4] m=some (.tup [],m')/\SD m0 nm N L m' (pre++(Y++(mid++(X++post)))):=by
 obtain ⟨m',e,k⟩:=qgK hL x4 a b n ha hb X Y [] [] m hXY rfl (by simp[hn]) (by simpa using h);exact ⟨m',by rw[qfU];exact e,by simpa using k⟩
theorem qgE (hL:L<=100000) (x4:AV) (mm:Nat):∀ (k:Nat) (P A B Q:List Nat) (m:af),A.length+B.length=k->A≠[]->B≠[]->mm=P.length+A.length->SD m0 nm N L m (P++(A++(B++Q))) ->
  ∃ m',Cg (.arr nm 0 L none) (ni mm) x4 (ni A.length) (ni B.length) m (J2 (aF ae.P f186.results.toList))=some (.tup [],m')/\SD m0 nm N L m' (P++(B++(A++Q))):=by
 intro k
 induction k using Nat.strongRecOn with
 | ind k ih=>
  intro P A B Q m hk hA hB hm h;have hl:=h.hl;simp only[aI] at hl;have a0:=xJ.2 hA;have b0:=xJ.2 hB
  by_cases he:A.length=B.length
  ·obtain ⟨m',e,k'⟩:=Jx hL x4 (mid:=[]) he (by simpa using h) (a:=P.length) (b:=mm) (n:=A.length) rfl rfl (by simp[hm]);refine ⟨m',?_,by simpa using k'⟩;rw[Kj,iY,aa,az,aj (by rw[he];simp),qcK,nc (by omega) (by omega),aa,show mm - A.length=P.length by omega,e,aa]
  ·by_cases hg:B.length < A.length
   ·have eA:A=A.take B.length++A.drop B.length:=(n5 _ _).symm;have t1:(A.take B.length).length=B.length:=by rw[ji];omega
    have t2:(A.drop B.length).length=A.length - B.length:=qS
    obtain ⟨m1,e,k1⟩:=Jx hL x4 (pre:=P) (X:=A.take B.length) (mid:=A.drop B.length) (Y:=B) (post:=Q) t1 (by
     rw[<- ga (A.take B.length),n5];exact h) (a:=P.length) (b:=mm) (n:=B.length) rfl t1.symm (by omega)
    obtain ⟨m',e2,k2⟩:=ih A.length (by omega) (P++B) (A.drop B.length) (A.take B.length) Q m1 (by omega) (uA (by omega)) (uA (by omega)) (by simp;omega) (by simpa using k1)
    refine ⟨m',?_,?_⟩
    ·rw[Kj,iY,aa,az,an (by omega),hJ,aa,az,an (by omega),nc (by omega) (by omega),aa,show mm - A.length=P.length by omega,e,aa,nc (by omega) (by omega),aa];rw[t1,t2] at e2;exact e2
    ·have:=k2;rw[ga,<- ga (A.take B.length),n5] at this;exact this
   ·have eB:B=B.take (B.length - A.length)++B.drop (B.length - A.length):=(n5 _ _).symm;have t1:(B.take (B.length - A.length)).length=B.length - A.length:=by rw[ji];omega
    have t2:(B.drop (B.length - A.length)).length=A.length:=by rw[qS];omega
    obtain ⟨m1,e,k1⟩:=Jx hL x4 (pre:=P) (X:=A) (mid:=B.take (B.length - A.length)) (Y:=B.drop (B.length - A.length)) (post:=Q) t2.symm (by
     rw[<- ga (B.take (B.length - A.length)),n5];exact h) (a:=P.length) (b:=mm+B.length - A.length) (n:=A.length) rfl rfl (by omega)
    obtain ⟨m',e2,k2⟩:=ih B.length (by omega) P (B.drop (B.length - A.length)) (B.take (B.length - A.length)) (A++Q) m1 (by omega) (uA (by omega)) (uA (by omega)) (by omega) (by simpa using k1)
    refine ⟨m',?_,?_⟩
    ·rw[Kj,iY,aa,az,an (by omega),hJ,aa,az,aj (by omega),nc (by omega) (by omega),aa,show mm - A.length=P.length by omega,kM (by omega),aa,nc (by omega) (by omega),aa,e,aa,nc (by omega) (by omega),aa];rw[t1,t2] at e2;exact e2
    ·have:=k2;rw[<- ga (B.take (B.length - A.length)),n5] at this;exact this
theorem ZJ (hL:L<=100000) (x4:AV) {P A B Q:List Nat} {m:af} (hA:A≠[]) (hB:B≠[]) (h:SD m0 nm N L m (P++(A++(B++Q)))) {a mm b:Nat} (ha:a=P.length) (hm:mm=a+A.length) (hb:b=mm+B.length) :
  ∃ m',AC ae 186 [.arr nm 0 L none,ni a,ni mm,ni b,x4] m=some (.tup [],m')/\SD m0 nm N L m' (P++(B++(A++Q))):=by
 have hl:=h.hl;simp only[aI] at hl;obtain ⟨m',e,k⟩:=qgE hL x4 mm _ P A B Q m rfl hA hB (by omega) h;refine ⟨m',?_,k⟩;rw[qfR,nc (by omega) (by omega),aa,nc (by omega) (by omega),aa,show mm - a=A.length by omega,show b - mm=B.length by omega];exact e
theorem qgz (hL:L<=100000) (hc:ql m0 nm N p f) {pre post:List Nat} (x2 x8:AV) {x:Nat} (K:KT):∀ (k:Nat) (S1 S2:List Nat) (m:af),S1.length=k->cQ f (S1++S2)->(∀ s∈S2,f x<=f s)->SD m0 nm N L m (pre++(S1++x::(S2++post))) ->
  ∃ (m':af) (T1 T2:List Nat),zP (.arr nm 0 L none) (ni pre.length) x2 (.fn 67 [p]) x8 (ni (pre.length+S1.length)) m K=K (.exit 2) (CD (.arr nm 0 L none) (ni pre.length) x2 (.fn 67 [p]) x8 m') /\
   SD m0 nm N L m' (pre++(T1++x::(T2++post)))/\T1++T2=S1++S2/\(∀ t∈T1,f t<=f x)/\∀ t∈T2,f x<=f t:=by
 intro k
 induction k with
 | zero=>
  intro S1 S2 m hk hs h2 h;have:S1=[]:=nY hk;subst this;refine ⟨m,[],S2,?_,h,rfl,by simp,h2⟩;rw[Qx,hJ,aa,az,aj (by simp)]
 | succ k ih=>
  intro S1 S2 m hk hs h2 h
  obtain ⟨S,y,rfl⟩:∃ S y,S1=S++[y]:=by
   have hne:S1≠[]:=fun e=>by simp[e] at hk
   exact ⟨S1.dropLast,S1.getLast hne,(List.dropLast_concat_getLast hne).symm⟩
  have hl:=h.hl;simp only[aI,aJ,aM] at hl hk ⊢;have h':SD m0 nm N L m ((pre++S)++y::([]++x::(S2++post))):=by simpa using h
  have lD:pre.length+(S.length+1) - 1=(pre++S).length:=by simp
  have hj:pre.length+(S.length+1)=(pre++S).length+1+([]:List Nat).length:=by simp;omega
  obtain ⟨l1,l2,_,_⟩:=h'.swap lD hj;have hx:=h.hN x (by simp);have hy:=h.hN y (by simp);obtain ⟨m1,e1,k1⟩:=h.cmp hc hx hy;have ia:aG none (.arr nm 0 L none) (ni (pre.length+(S.length+1)))=some (.ptr nm (pre.length+(S.length+1))):=fU (by omega);have ib:aG none (.arr nm 0 L none) (ni (pre.length+(S.length+1) - 1))=some (.ptr nm (pre.length+(S.length+1) - 1)):=fU (by omega);have is:ag .other .sub (ni (pre.length+(S.length+1))) (.int .i64 1)=some (ni (pre.length+(S.length+1) - 1)):=oC (by omega) (by omega)
  have yM:zP (.arr nm 0 L none) (ni pre.length) x2 (.fn 67 [p]) x8 (ni (pre.length+(S.length+1))) m K=aw (.bool (decide (f x - f y < 0))) (
    (ag .other .sub (ni (pre.length+(S.length+1))) (.int .i64 1)).bind fun v11=>
    (ag .other .sub (ni (pre.length+(S.length+1))) (.int .i64 1)).bind fun v12=>
    (aG none (.arr nm 0 L none) v12).bind fun bp=>
    (ai none m1 bp).bind fun bj=>
    (aG none (.arr nm 0 L none) (ni (pre.length+(S.length+1)))).bind fun bn=>
    (ai none m1 bn).bind fun bO=>
    (aG none (.arr nm 0 L none) (ni (pre.length+(S.length+1)))).bind fun bB=>
    (aN none m1 bB bj).bind fun m18=>
    (aG none (.arr nm 0 L none) v11).bind fun eU=>
    (aN none m18 eU bO).bind fun m20=>
    (ag .other .sub (ni (pre.length+(S.length+1))) (.int .i64 1)).bind fun v21=>
    zP (.arr nm 0 L none) (ni pre.length) x2 (.fn 67 [p]) x8 v21 m20 K) (K (.exit 2) (CD (.arr nm 0 L none) (ni pre.length) x2 (.fn 67 [p]) x8 m1)):=by
   rw[Qx,hJ,aa,az,an (by omega),ia,aa,l2,aa,is,aa,ib,aa,l1,aa,show lp (.fn 67 [p])=some (67,[p]) from rfl,aa,tw rfl rfl rfl,e1,aa,bg,aa]
  rw[yM,az]
  by_cases hlt:f x - f y < 0
  ·rw[an hlt];have k1':SD m0 nm N L m1 ((pre++S)++y::([]++x::(S2++post))):=by simpa using k1
   obtain ⟨l1',l2',_,⟨m2,m3,s1,s2,k3⟩⟩:=k1'.swap lD hj
   obtain ⟨m',T1,T2,e,q1,q2,q3,q4⟩:=ih S (y::S2) m3 (by omega) (by simpa using hs) (fun s gy=>by
    rcases gB.1 gy with rfl | gy
    ·omega
    ·exact h2 s gy) (by simpa using k3)
   refine ⟨m',T1,T2,?_,q1,by rw[q2];simp,q3,q4⟩;rw[is,aa,aa,ib,aa,l1',aa,ia,aa,l2',aa,aa,s1,aa,aa,s2,aa,aa];exact e
  ·rw[aj hlt];refine ⟨m1,S++[y],S2,rfl,k1,rfl,fun t ht=>?_,h2⟩;have:=cQ.le_last (cQ.app.1 hs).1 t ht;omega
theorem qgA (hL:L<=100000) (hc:ql m0 nm N p f) {pre post:List Nat} (b:Nat):∀ (R S:List Nat) (m:af),cQ f S->b=pre.length+S.length+R.length->SD m0 nm N L m (pre++(S++(R++post))) ->
  ∃ (m':af) (S':List Nat),F3 (.arr nm 0 L none) (ni pre.length) (ni b) (.fn 67 [p]) (ni (pre.length+S.length)) m (Fl (aF ae.P f165.results.toList))=some (.tup [],m')/\SD m0 nm N L m' (pre++(S'++post))/\S'.Perm (S++R)/\cQ f S':=by
 intro R
 induction R with
 | nil=>
  intro S m hs hb h;refine ⟨m,S,?_,by simpa using h,by simp,hs⟩;rw[Kh,bg,aa,az,aj (by simp at hb;omega),P1]
 | cons x R ih=>
  intro S m hs hb h;have hl:=h.hl;simp only[aI,aJ] at hl hb;obtain ⟨m1,T1,T2,e,q1,q2,q3,q4⟩:=qgz hL hc (pre:=pre) (post:=R++post) (ni b) (ni (pre.length+S.length)) (x:=x) (JV (Fl (aF ae.P f165.results.toList))) S.length S [] m rfl (by simpa using hs) (by simp) (by simpa using h);rw[bP] at q2;have gy:cQ f (T1++x::T2):=cQ.put (by rw[q2];exact hs) q3 q4;have hlen:(T1++x::T2).length=S.length+1:=by rw[<- q2];simp;omega
  have A0:(T1++x::T2).Perm (S++[x]):=by rw[<- q2];exact List.perm_middle.trans (List.perm_append_singleton x _).symm
  obtain ⟨m',S',e2,k1,k2,k3⟩:=ih (T1++x::T2) m1 gy (by rw[hlen];omega) (by simpa using q1)
  refine ⟨m',S',?_,k1,k2.trans ?_,k3⟩
  ·rw[Kh,bg,aa,az,an (by omega),e,qb2,cG (by omega),aa];rw[hlen] at e2;exact e2
  ·refine (A0.append_right R).trans ?_;simp
theorem PE (hL:L<=100000) (hc:ql m0 nm N p f) {pre X post:List Nat} {m:af} (h:SD m0 nm N L m (pre++(X++post))) {a b:Nat} (ha:a=pre.length) (hb:b=a+X.length) :
  ∃ (m':af) (X':List Nat),AC ae 165 [.arr nm 0 L none,ni a,ni b,.fn 67 [p]] m=some (.tup [],m')/\SD m0 nm N L m' (pre++(X'++post))/\X'.Perm X/\cQ f X':=by
 have hl:=h.hl;simp only[aI] at hl;subst ha
 cases X with
 | nil=>
  refine ⟨m,[],?_,by simpa using h,by simp,List.Pairwise.nil⟩;rw[RK,cG (by omega),aa,Kh,bg,aa,az,aj (by simp at hb;omega),P1]
 | cons x R=>
  obtain ⟨m',S',e,k1,k2,k3⟩:=qgA hL hc (pre:=pre) (post:=post) b R [x] m (List.pairwise_singleton _ _) (by rw[hb];simp only[aJ,aM];omega) (by simpa using h);refine ⟨m',S',?_,k1,by simpa using k2,k3⟩;rw[RK,cG (by omega),aa];exact e
end
end Go.Ab
namespace Go.Ab
open Go.Proofs Go.Proofs.Tryz
theorem qoz (a:Nat):ag .other .shr (.int .u64 (a:Int)) (.int .u64 1)=some (.int .u64 ((a / 2:Nat):Int)):=by
 rw[Tc _ _ _ _ _ (by omega)]
 have:(a:Int).fdiv (2 ^ (min (1:Int).toNat (IntKind.bits .u64)))=((a / 2:Nat):Int):=by
  have e:min (1:Int).toNat (IntKind.bits .u64)=1:=rfl;rw[e,Int.fdiv_eq_ediv_of_nonneg _ (by omega)];omega
 rw[this]
theorem qjx {k:IntKind} {a:Nat} (h:a < 9223372036854775808):bm .i64 (.int k a)=some (ni a):=by rw[lR,iK (by omega) (by omega)]
section
variable {R:Type}
theorem ID {i j:Nat} (h:i+j < 1000000) (K:AV->Option R):((ag .other .add (ni i) (ni j)).bind fun v2=>(bm .u64 v2).bind fun v3=>(ag .other .shr v3 (.int .u64 1)).bind fun v4=>(bm .i64 v4).bind fun v5=>K v5)=K (ni ((i+j) / 2)):=by
 rw[kM (by omega),aa,C7 (by omega),aa,qoz,aa,qjx (by omega),aa]
end
section
variable {m0:af} {nm N L:Nat} {p:AV} {f:Nat->Int}
theorem S3 (hL:L<=100000) (hc:ql m0 nm N p f) {l:List Nat} {a lo hi:Nat} (ha:a < L) (hh:hi<=L) (K:KT):∀ (k i j:Nat) (m:af),j - i=k->lo<=i->i<=j->j<=hi->(i=lo\/f (l.getD (i - 1) 0) < f (l.getD a 0))->(j=hi\/¬ f (l.getD j 0) < f (l.getD a 0))->SD m0 nm N L m l ->
  ∃ (m':af) (s:Nat),vQ (.arr nm 0 L none) (ni a) (.fn 67 [p]) (ni i) (ni j) m K=K (.exit 0) (KF (.arr nm 0 L none) (ni a) (ni s) m')/\SD m0 nm N L m' l/\Edge (fun c=>f (l.getD c 0) < f (l.getD a 0)) lo hi s:=by
 intro k
 induction k using Nat.strongRecOn with
 | ind k ih=>
  intro i j m hk h1 h2 h3 h4 h5 h
  by_cases rv:i < j
  ·have pZ:i<=(i+j) / 2:=by omega
   have vg:(i+j) / 2 < j:=by omega
   generalize DN:(i+j) / 2=q at pZ vg;obtain ⟨l1,n1⟩:=h.ld' (i:=q) (by omega);obtain ⟨l2,n2⟩:=h.ld' (i:=a) ha;obtain ⟨m1,e1,k1⟩:=h.cmp hc n1 n2;have i1:aG none (.arr nm 0 L none) (ni q)=some (.ptr nm q):=fU (by omega);have i2:aG none (.arr nm 0 L none) (ni a)=some (.ptr nm a):=fU ha
   have yM:vQ (.arr nm 0 L none) (ni a) (.fn 67 [p]) (ni i) (ni j) m K=aw (.bool (decide (f (l.getD q 0) - f (l.getD a 0) < 0))) ((ag .other .add (ni q) (.int .i64 1)).bind fun bj=>vQ (.arr nm 0 L none) (ni a) (.fn 67 [p]) bj (ni j) m1 K) (vQ (.arr nm 0 L none) (ni a) (.fn 67 [p]) (ni i) (ni q) m1 K):=by
    rw[QB,bg,aa,az,an (by omega),ID (by omega),DN,i1,aa,l1,aa,i2,aa,l2,aa,show lp (.fn 67 [p])=some (67,[p]) from rfl,aa,tw rfl rfl rfl,e1,aa,bg,aa]
   rw[yM,az]
   by_cases ht:f (l.getD q 0) - f (l.getD a 0) < 0
   ·rw[an ht,cG (by omega),aa];exact ih (j - (q+1)) (by omega) (q+1) j m1 rfl (by omega) (by omega) h3 (.inr (by rw[pn];omega)) h5 k1
   ·rw[aj ht];exact ih (q - i) (by omega) i q m1 rfl h1 pZ (by omega) h4 (.inr (by omega)) k1
  ·have:i=j:=by omega
   subst this;refine ⟨m,i,?_,h,h1,h3,h4,h5⟩;rw[QB,bg,aa,az,aj (by omega)]
theorem S15 (hL:L<=100000) (hc:ql m0 nm N p f) {l:List Nat} {a lo hi:Nat} (ha:a < L) (hh:hi<=L) (K:KT):∀ (k i j:Nat) (m:af),j - i=k->lo<=i->i<=j->j<=hi->(i=lo\/f (l.getD (i - 1) 0)<=f (l.getD a 0))->(j=hi\/¬ f (l.getD j 0)<=f (l.getD a 0))->SD m0 nm N L m l ->
  ∃ (m':af) (s:Nat),vP (.arr nm 0 L none) (ni a) (.fn 67 [p]) (ni i) (ni j) m K=K (.exit 4) (KE (.arr nm 0 L none) (ni a) (ni s) m')/\SD m0 nm N L m' l/\Edge (fun c=>f (l.getD c 0)<=f (l.getD a 0)) lo hi s:=by
 intro k
 induction k using Nat.strongRecOn with
 | ind k ih=>
  intro i j m hk h1 h2 h3 h4 h5 h
  by_cases rv:i < j
  ·have pZ:i<=(i+j) / 2:=by omega
   have vg:(i+j) / 2 < j:=by omega
   generalize DN:(i+j) / 2=q at pZ vg;obtain ⟨l1,n1⟩:=h.ld' (i:=q) (by omega);obtain ⟨l2,n2⟩:=h.ld' (i:=a) ha;obtain ⟨m1,e1,k1⟩:=h.cmp hc n2 n1;have i1:aG none (.arr nm 0 L none) (ni q)=some (.ptr nm q):=fU (by omega);have i2:aG none (.arr nm 0 L none) (ni a)=some (.ptr nm a):=fU ha
   have yM:vP (.arr nm 0 L none) (ni a) (.fn 67 [p]) (ni i) (ni j) m K=aw (.bool (!decide (f (l.getD a 0) - f (l.getD q 0) < 0))) ((ag .other .add (ni q) (.int .i64 1)).bind fun bj=>vP (.arr nm 0 L none) (ni a) (.fn 67 [p]) bj (ni j) m1 K) (vP (.arr nm 0 L none) (ni a) (.fn 67 [p]) (ni i) (ni q) m1 K):=by
    rw[Qy,bg,aa,az,an (by omega),ID (by omega),DN,i2,aa,l2,aa,i1,aa,l1,aa,show lp (.fn 67 [p])=some (67,[p]) from rfl,aa,tw rfl rfl rfl,e1,aa,bg,aa,qM,aa]
   rw[yM]
   by_cases ht:f (l.getD a 0) - f (l.getD q 0) < 0
   ·rw[eT ht,jN,ig];exact ih (q - i) (by omega) i q m1 rfl h1 pZ (by omega) h4 (.inr (by omega)) k1
   ·rw[dk ht,nT,mJ,cG (by omega),aa];exact ih (j - (q+1)) (by omega) (q+1) j m1 rfl (by omega) (by omega) h3 (.inr (by rw[pn];omega)) h5 k1
  ·have:i=j:=by omega
   subst this;refine ⟨m,i,?_,h,h1,h3,h4,h5⟩;rw[Qy,bg,aa,az,aj (by omega)]
theorem S33 (hL:L<=100000) (hc:ql m0 nm N p f) {l:List Nat} {pp lo hi:Nat} (hh:hi<=pp+1) (hp:pp < L+lo) (hhl:hi<=L) (x1 x2 x3 dz gM:AV) (K:KT):∀ (k i j:Nat) (m:af),j - i=k->lo<=i->i<=j->j<=hi->(i=lo\/f (l.getD (i - 1) 0)<=f (l.getD (pp - (i - 1)) 0))->(j=hi\/¬ f (l.getD j 0)<=f (l.getD (pp - j) 0))->SD m0 nm N L m l ->
  ∃ (m':af) (s:Nat),qR (.arr nm 0 L none) x1 x2 x3 (.fn 67 [p]) dz gM (ni i) (ni j) (ni pp) m K=K (.exit 8) (GI (.arr nm 0 L none) x1 x2 x3 (.fn 67 [p]) dz gM (ni s) m')/\SD m0 nm N L m' l/\Edge (fun c=>f (l.getD c 0)<=f (l.getD (pp - c) 0)) lo hi s:=by
 intro k
 induction k using Nat.strongRecOn with
 | ind k ih=>
  intro i j m hk h1 h2 h3 h4 h5 h
  by_cases rv:i < j
  ·have pZ:i<=(i+j) / 2:=by omega
   have vg:(i+j) / 2 < j:=by omega
   generalize DN:(i+j) / 2=q at pZ vg;obtain ⟨l1,n1⟩:=h.ld' (i:=q) (by omega);obtain ⟨l2,n2⟩:=h.ld' (i:=pp - q) (by omega);obtain ⟨m1,e1,k1⟩:=h.cmp hc n2 n1;have i1:aG none (.arr nm 0 L none) (ni q)=some (.ptr nm q):=fU (by omega);have i2:aG none (.arr nm 0 L none) (ni (pp - q))=some (.ptr nm (pp - q)):=fU (by omega)
   have yM:qR (.arr nm 0 L none) x1 x2 x3 (.fn 67 [p]) dz gM (ni i) (ni j) (ni pp) m K=aw (.bool (!decide (f (l.getD (pp - q) 0) - f (l.getD q 0) < 0))) ((ag .other .add (ni q) (.int .i64 1)).bind fun bj=>qR (.arr nm 0 L none) x1 x2 x3 (.fn 67 [p]) dz gM bj (ni j) (ni pp) m1 K) (qR (.arr nm 0 L none) x1 x2 x3 (.fn 67 [p]) dz gM (ni i) (ni q) (ni pp) m1 K):=by
    rw[QA,bg,aa,az,an (by omega),ID (by omega),DN,nc (by omega) (by omega),aa,i2,aa,l2,aa,i1,aa,l1,aa,show lp (.fn 67 [p])=some (67,[p]) from rfl,aa,tw rfl rfl rfl,e1,aa,bg,aa,qM,aa]
   rw[yM]
   by_cases ht:f (l.getD (pp - q) 0) - f (l.getD q 0) < 0
   ·rw[eT ht,jN,ig];exact ih (q - i) (by omega) i q m1 rfl h1 pZ (by omega) h4 (.inr (by omega)) k1
   ·rw[dk ht,nT,mJ,cG (by omega),aa];exact ih (j - (q+1)) (by omega) (q+1) j m1 rfl (by omega) (by omega) h3 (.inr (by rw[pn];omega)) h5 k1
  ·have:i=j:=by omega
   subst this;refine ⟨m,i,?_,h,h1,h3,h4,h5⟩;rw[QA,bg,aa,az,aj (by omega)]
theorem W9 (hL:L<=100000) {x s:Nat} {pre post:List Nat}:∀ (Q P:List Nat) (m:af),s=pre.length+P.length+1+Q.length->SD m0 nm N L m (pre++(P++x::(Q++post))) ->
  ∃ m',F9 (.arr nm 0 L none) (ni s) (ni (pre.length+P.length)) m (JZ (aF ae.P f166.results.toList))=some (.tup [],m')/\SD m0 nm N L m' (pre++(P++(Q++x::post))):=by
 intro Q
 induction Q with
 | nil=>
  intro P m hs h;have hl:=h.hl;simp only[aI,aJ,aM] at hl hs;refine ⟨m,?_,h⟩;rw[QC,oC (by omega) (by omega),aa,bg,aa,az,aj (by omega),qcl]
 | cons y Q ih=>
  intro P m hs h;have hl:=h.hl;simp only[aI,aJ] at hl hs;have h':SD m0 nm N L m ((pre++P)++x::([]++y::(Q++post))):=by simpa using h
  obtain ⟨l1,l2,⟨m1,m2,s1,s2,k⟩,_⟩:=h'.swap (i:=pre.length+P.length) (j:=pre.length+P.length+1) (by simp) (by simp);obtain ⟨m',e,k'⟩:=ih (P++[y]) m2 (by simp;omega) (by simpa using k);refine ⟨m',?_,by simpa using k'⟩;have ia:aG none (.arr nm 0 L none) (ni (pre.length+P.length))=some (.ptr nm (pre.length+P.length)):=fU (by omega);have ib:aG none (.arr nm 0 L none) (ni (pre.length+P.length+1))=some (.ptr nm (pre.length+P.length+1)):=fU (by omega);have i1:ag .other .add (ni (pre.length+P.length)) (.int .i64 1)=some (ni (pre.length+P.length+1)):=cG (by omega);rw[QC,oC (by omega) (by omega),aa,bg,aa,az,an (by omega),i1,aa,aa,ib,aa,l2,aa,ia,aa,l1,aa,aa,s1,aa,aa,s2,aa,aa];rw[aI,tj] at e;exact e
theorem W21 (hL:L<=100000) {x s:Nat} {pre post:List Nat} (hs:s=pre.length):∀ (k:Nat) (Q P:List Nat) (m:af),Q.length=k->SD m0 nm N L m (pre++(Q++x::(P++post))) ->
  ∃ m',F7 (.arr nm 0 L none) (ni s) (ni (pre.length+Q.length)) m (JX (aF ae.P f166.results.toList))=some (.tup [],m')/\SD m0 nm N L m' (pre++(x::(Q++(P++post)))):=by
 intro k
 induction k with
 | zero=>
  intro Q P m hk h;have:Q=[]:=nY hk;subst this;refine ⟨m,?_,h⟩;rw[Qz,hJ,aa,az,aj (by simp;omega),qca]
 | succ k ih=>
  intro Q P m hk h
  obtain ⟨S,y,rfl⟩:∃ S y,Q=S++[y]:=by
   have hne:Q≠[]:=fun e=>by simp[e] at hk
   exact ⟨Q.dropLast,Q.getLast hne,(List.dropLast_concat_getLast hne).symm⟩
  have hl:=h.hl;simp only[aI,aJ,aM] at hl hk ⊢;have h':SD m0 nm N L m ((pre++S)++y::([]++x::(P++post))):=by simpa using h
  obtain ⟨l1,l2,_,⟨m1,m2,s1,s2,k1⟩⟩:=h'.swap (i:=pre.length+(S.length+1) - 1) (j:=pre.length+(S.length+1)) (by simp) (by simp;omega);obtain ⟨m',e,k'⟩:=ih S (y::P) m2 (by omega) (by simpa using k1);refine ⟨m',?_,by simpa using k'⟩;have ia:aG none (.arr nm 0 L none) (ni (pre.length+(S.length+1)))=some (.ptr nm (pre.length+(S.length+1))):=fU (by omega);have ib:aG none (.arr nm 0 L none) (ni (pre.length+(S.length+1) - 1))=some (.ptr nm (pre.length+(S.length+1) - 1)):=fU (by omega);have is:ag .other .sub (ni (pre.length+(S.length+1))) (.int .i64 1)=some (ni (pre.length+(S.length+1) - 1)):=oC (by omega) (by omega);have e0:ni (pre.length+(S.length+0+1))=ni (pre.length+(S.length+1)):=rfl;rw[Qz,hJ,aa,az,an (by omega),is,aa,aa,ib,aa,l1,aa,ia,aa,l2,aa,aa,s1,aa,aa,s2,aa,aa];exact e
end
end Go.Ab
namespace Go.Ab
open Go.Proofs Go.Proofs.Tryz
theorem cQ.le_take {f:Nat->Int} {B:List Nat} (h:cQ f B) {s:Nat} {c:Int} (hs:s<=B.length) (he:s=0\/f (B.getD (s - 1) 0)<=c):∀ t∈B.take s,f t<=c:=by
 cases s with
 | zero=>simp
 | succ s=>
  have hl:s < B.length:=hs
  rcases he with he | he
  ·cases he
  ·rw[pn,aT,bA hl,fg] at he;rw[n6 hl];intro t ht
   have h1:cQ f (B.take s++[B[s]]):=by
    rw[<- n6 hl];exact Cs (List.take_sublist _ _) h
   exact Int.le_trans (cQ.le_last h1 t ht) he
theorem cQ.ge_drop {f:Nat->Int} {B:List Nat} (h:cQ f B) {s:Nat} {c:Int} (he:s=B.length\/c<=f (B.getD s 0)):∀ t∈B.drop s,c<=f t:=by
 by_cases hl:s < B.length
 ·rcases he with he | he
  ·omega
  ·rw[aT,bA hl,fg] at he;rw[kP hl];intro t ht
   have h1:cQ f (B[s]::B.drop (s+1)):=by
    rw[<- kP hl];exact Cs (List.drop_sublist _ _) h
   exact Int.le_trans he (cQ.head_le h1 t ht)
 ·rw[jA (by omega)];simp
theorem Dl {pre A B post:List Nat} {i k:Nat} (hi:i < A.length) (hk:k=pre.length+i):(pre++(A++(B++post))).getD k 0=A.getD i 0:=by
 subst hk;simp only[aT];rw[rU (by omega),Nat.add_sub_cancel_left,nl hi]
theorem Dm {pre A B post:List Nat} {i k:Nat} (hi:i < B.length) (hk:k=pre.length+A.length+i):(pre++(A++(B++post))).getD k 0=B.getD i 0:=by
 subst hk;simp only[aT];rw[rU (by omega),rU (by omega),nl (by omega)];congr 2;omega
noncomputable def Eb (x0 dz v1 x3 x4:AV) (m:af):OM:=
 (ag .other .lss dz v1).bind fun v=>aw v ((ag .other .lss v1 x3).bind fun w=>aw w ((AC ae 166 [x0,dz,v1,x3,x4] m).bind fun r=>some ((.tup []),r.2)) (some ((.tup []),m))) (some ((.tup []),m))
noncomputable def wW (x0 x1 iF dz v1 x3 x4:AV) (m:af):OM:=
 (ag .other .lss x1 iF).bind fun v=>aw v ((ag .other .lss iF dz).bind fun w=>aw w ((AC ae 166 [x0,x1,iF,dz,x4] m).bind fun r=>Eb x0 dz v1 x3 x4 r.2) (Eb x0 dz v1 x3 x4 m)) (Eb x0 dz v1 x3 x4 m)
theorem mE0 (x0 x1 x2 x3 x4 dz gM iF:AV) (m:af):vM (aF ae.P f166.results.toList) (.exit 8) (GI x0 x1 x2 x3 x4 dz gM iF m) =
  (ag .other .sub gM iF).bind fun v1=>(ag .other .lss iF x2).bind fun v2=>aw v2 ((ag .other .lss x2 v1).bind fun v3=>aw v3 ((AC ae 186 [x0,iF,x2,v1,x4] m).bind fun r=>wW x0 x1 iF dz v1 x3 x4 r.2) (wW x0 x1 iF dz v1 x3 x4 m)) (wW x0 x1 iF dz v1 x3 x4 m):=(qcd x0 x1 x2 x3 x4 dz gM iF m).trans rfl
section
variable {m0:af} {nm N L:Nat} {p:AV} {f:Nat->Int}
def PN (m0:af) (nm N L:Nat) (p:AV) (f:Nat->Int) (n:Nat):Prop:=∀ (pre A B post:List Nat) (m:af) (a mm b:Nat),A.length+B.length=n->A≠[]->B≠[]->cQ f A->cQ f B->SD m0 nm N L m (pre++(A++(B++post)))->a=pre.length->mm=a+A.length->b=mm+B.length ->
 ∃ (m':af) (M:List Nat),AC ae 166 [.arr nm 0 L none,ni a,ni mm,ni b,.fn 67 [p]] m=some (.tup [],m')/\SD m0 nm N L m' (pre++(M++post))/\M.Perm (A++B)/\cQ f M
theorem XB {n:Nat} (ih:PN m0 nm N L p f n) {pre A B post:List Nat} {m:af} {a mm b:Nat} (hn:A.length+B.length=n) (sA:cQ f A) (sB:cQ f B) (h:SD m0 nm N L m (pre++(A++(B++post)))) (ha:a=pre.length) (hm:mm=a+A.length) (hb:b=mm+B.length)
  {R:Type} (K:af->Option R):∃ (m':af) (M:List Nat),((ag .other .lss (ni a) (ni mm)).bind fun v=>aw v ((ag .other .lss (ni mm) (ni b)).bind fun w=>aw w ((AC ae 166 [.arr nm 0 L none,ni a,ni mm,ni b,.fn 67 [p]] m).bind fun r=>K r.2) (K m)) (K m))=K m'/\SD m0 nm N L m' (pre++(M++post))/\M.Perm (A++B)/\cQ f M:=by
 rw[bg,aa,az]
 by_cases hA:A=[]
 ·subst hA;rw[aj (by simp at hm;omega)];exact ⟨m,B,rfl,h,by simp,sB⟩
 ·have:=xJ.2 hA;rw[an (by omega),bg,aa,az]
  by_cases hB:B=[]
  ·subst hB;rw[aj (by simp at hb;omega)];exact ⟨m,A,rfl,by simpa using h,by simp,sA⟩
  ·have:=xJ.2 hB;rw[an (by omega)];obtain ⟨m',M,e,k⟩:=ih pre A B post m a mm b hn hA hB sA sB h ha hm hb;exact ⟨m',M,by rw[e,aa],k⟩
theorem PF (hL:L<=100000) (hc:ql m0 nm N p f):∀ n,PN m0 nm N L p f n:=by
 intro n
 induction n using Nat.strongRecOn with
 | ind n ih=>
  intro pre A B post m a mm b hn hA hB sA sB h ha hm hb;have a0:=xJ.2 hA;have b0:=xJ.2 hB;have hl:=h.hl;simp only[aI] at hl;rw[qfJ,nc (by omega) (by omega),aa,ir,aa,az]
  by_cases h1:A.length=1
  ·rw[an (by omega)];obtain ⟨x,rfl⟩:=List.length_eq_one_iff.1 h1;obtain ⟨m1,s,e1,k1,g1,g2,g3,g4⟩:=S3 hL hc (l:=pre++([x]++(B++post))) (a:=a) (lo:=mm) (hi:=b) (by omega) (by omega) (JY (aF ae.P f166.results.toList)) _ mm b m rfl (aR _) (by omega) (aR _) (.inl rfl) (.inl rfl) h;dsimp only at g3 g4;have ex:(pre++([x]++(B++post))).getD a 0=x:=by rw[Dl (i:=0) (by simp) (by omega)];rfl
   rw[ex] at g3 g4
   have q1:∀ t∈B.take (s - mm),f t<=f x:=cQ.le_take sB (by omega) (by
    rcases g3 with g3 | g3
    ·exact .inl (by omega)
    ·by_cases hz:s=mm
     ·exact .inl (by omega)
     ·rw[Dm (i:=s - 1 - mm) (by omega) (by omega)] at g3;rw[show s - mm - 1=s - 1 - mm by omega]
      exact .inr (by omega))
   have q2:∀ t∈B.drop (s - mm),f x<=f t:=cQ.ge_drop sB (by
    rcases g4 with g4 | g4
    ·exact .inl (by omega)
    ·by_cases hz:s=b
     ·exact .inl (by omega)
     ·rw[Dm (i:=s - mm) (by omega) (by omega)] at g4
      exact .inr (by omega))
   have tl:(B.take (s - mm)).length=s - mm:=by rw[ji];omega
   obtain ⟨m2,e2,k2⟩:=W9 hL (x:=x) (s:=s) (pre:=pre) (post:=B.drop (s - mm)++post) (B.take (s - mm)) [] m1 (by simp at hm ⊢;omega) (by
    rw[bE,<- ga (B.take (s - mm)),n5];exact k1)
   refine ⟨m2,B.take (s - mm)++x::B.drop (s - mm),?_,by simpa using k2,?_,?_⟩
   ·rw[e1,qch,ha];exact e2
   ·refine List.perm_middle.trans ?_;rw[n5];exact List.Perm.refl _
   ·exact cQ.put (by rw[n5];exact sB) q1 q2
  ·rw[aj (by omega),nc (by omega) (by omega),aa,ir,aa,az]
   by_cases h2:B.length=1
   ·rw[an (by omega)];obtain ⟨x,rfl⟩:=List.length_eq_one_iff.1 h2;obtain ⟨m1,s,e1,k1,g1,g2,g3,g4⟩:=S15 hL hc (l:=pre++(A++([x]++post))) (a:=mm) (lo:=a) (hi:=mm) (by omega) (by omega) (JW (aF ae.P f166.results.toList)) _ a mm m rfl (aR _) (by omega) (aR _) (.inl rfl) (.inl rfl) h;dsimp only at g3 g4;have ex:(pre++(A++([x]++post))).getD mm 0=x:=by rw[Dm (i:=0) (by simp) (by omega)];rfl
    rw[ex] at g3 g4
    have q1:∀ t∈A.take (s - a),f t<=f x:=cQ.le_take sA (by omega) (by
     rcases g3 with g3 | g3
     ·exact .inl (by omega)
     ·by_cases hz:s=a
      ·exact .inl (by omega)
      ·rw[Dl (i:=s - 1 - a) (by omega) (by omega)] at g3;rw[show s - a - 1=s - 1 - a by omega]
       exact .inr g3)
    have q2:∀ t∈A.drop (s - a),f x<=f t:=cQ.ge_drop sA (by
     rcases g4 with g4 | g4
     ·exact .inl (by omega)
     ·by_cases hz:s=mm
      ·exact .inl (by omega)
      ·rw[Dl (i:=s - a) (by omega) (by omega)] at g4
       exact .inr (by omega))
    have tl:(A.take (s - a)).length=s - a:=by rw[ji];omega
    have dl:(A.drop (s - a)).length=A.length - (s - a):=qS
    obtain ⟨m2,e2,k2⟩:=W21 hL (x:=x) (s:=s) (pre:=pre++A.take (s - a)) (post:=post) (by simp[tl];omega) _ (A.drop (s - a)) [] m1 rfl (by
     rw[bE,ga,<- ga (A.take (s - a)),n5];exact k1)
    refine ⟨m2,A.take (s - a)++x::A.drop (s - a),?_,by simpa using k2,?_,?_⟩
    ·rw[e1,qb6];have:(pre++A.take (s - a)).length+(A.drop (s - a)).length=mm:=by rw[aI,tl,dl];omega
     rw[this] at e2;exact e2
    ·refine List.perm_middle.trans ?_;rw[n5];exact (List.perm_append_singleton x A).symm
    ·exact cQ.put (by rw[n5];exact sA) q1 q2
   ·rw[aj (by omega)];rw[ID (by omega)];have Vl:(a+b) / 2 * 2<=a+b:=Gv _ _;have qlm:a+b<=(a+b) / 2 * 2+1:=by omega
    generalize (a+b) / 2=mid at Vl qlm;rw[kM (by omega),aa,hJ,aa,az]
    have srch:∃ (lo hi:Nat),(if ((mm:Nat):Int) > ((mid:Nat):Int) then
       (ag .other .sub (.int .i64 ((mid+mm:Nat):Int)) (ni b)).bind fun v11=>(ag .other .sub (.int .i64 ((mid+mm:Nat):Int)) (.int .i64 1)).bind fun v12=>qR (.arr nm 0 L none) (ni a) (ni mm) (ni b) (.fn 67 [p]) (ni mid) (.int .i64 ((mid+mm:Nat):Int)) v11 (ni mid) v12 m (vM (aF ae.P f166.results.toList))
      else (ag .other .sub (.int .i64 ((mid+mm:Nat):Int)) (.int .i64 1)).bind fun bp=>qR (.arr nm 0 L none) (ni a) (ni mm) (ni b) (.fn 67 [p]) (ni mid) (.int .i64 ((mid+mm:Nat):Int)) (ni a) (ni mm) bp m (vM (aF ae.P f166.results.toList))) =
      qR (.arr nm 0 L none) (ni a) (ni mm) (ni b) (.fn 67 [p]) (ni mid) (ni (mid+mm)) (ni lo) (ni hi) (ni (mid+mm - 1)) m (vM (aF ae.P f166.results.toList))/\a<=lo/\lo<=hi/\hi<=mm/\hi<=mid/\mid+mm<=b+lo/\(lo=a\/mid+mm=b+lo)/\(hi=mm\/hi=mid):=by
     by_cases hg:mid < mm
     ·refine ⟨mid+mm - b,mid,?_,by omega,by omega,by omega,by omega,by omega,.inr (by omega),.inr rfl⟩;rw[an (by omega),nc (by omega) (by omega),aa,oC (by omega) (by omega),aa]
     ·refine ⟨a,mm,?_,by omega,by omega,by omega,by omega,by omega,.inl rfl,.inl rfl⟩;rw[aj (by omega),oC (by omega) (by omega),aa]
    obtain ⟨lo,hi,eS,z1,z2,z3,z4,z5,z6,z7⟩:=srch;rw[eS];obtain ⟨m1,s,e1,k1,g1,g2,g3,g4⟩:=S33 hL hc (l:=pre++(A++(B++post))) (pp:=mid+mm - 1) (lo:=lo) (hi:=hi) (by omega) (by omega) (by omega) (ni a) (ni mm) (ni b) (ni mid) (ni (mid+mm)) (vM (aF ae.P f166.results.toList)) _ lo hi m rfl (aR _) z2 (aR _) (.inl rfl) (.inl rfl) h;dsimp only at g3 g4;rw[e1,mE0,nc (by omega) (by omega),aa];obtain ⟨e,he⟩:∃ e,e=mid+mm - s:=⟨_,rfl⟩;rw[<- he];have eA:A.take (s - a)++A.drop (s - a)=A:=n5 _ _;have eB:B.take (e - mm)++B.drop (e - mm)=B:=n5 _ _;have tA:(A.take (s - a)).length=s - a:=by rw[ji];omega
    have dA:(A.drop (s - a)).length=mm - s:=by rw[qS];omega
    have tB:(B.take (e - mm)).length=e - mm:=by rw[ji];omega
    have dB:(B.drop (e - mm)).length=b - e:=by rw[qS];omega
    have b1:∀ x∈A.take (s - a),∀ y∈B.drop (e - mm),f x<=f y:=by
     by_cases hs:s=a
     ·rw[show s - a=0 by omega];simp
     ·by_cases DR:e=b
      ·rw[jA (show B.length<=e - mm by omega)];simp
      ·have hne:s≠lo:=by omega
       have:=g3.resolve_left hne;rw[Dl (i:=s - 1 - a) (by omega) (by omega),Dm (i:=e - mm) (by omega) (by omega)] at this;intro x hx y hy;have u1:=cQ.le_take sA (s:=s - a) (c:=f (A.getD (s - 1 - a) 0)) (by omega) (.inr (by rw[show s - a - 1=s - 1 - a by omega];exact qQ _)) x hx;have u2:=cQ.ge_drop sB (s:=e - mm) (c:=f (B.getD (e - mm) 0)) (.inr (qQ _)) y hy;omega
    have b2:∀ x∈B.take (e - mm),∀ y∈A.drop (s - a),f x<=f y:=by
     by_cases hs:s=mm
     ·rw[jA (show A.length<=s - a by omega)];simp
     ·by_cases DR:e=mm
      ·rw[show e - mm=0 by omega];simp
      ·have hne:s≠hi:=by omega
       have:=g4.resolve_left hne;rw[Dl (i:=s - a) (by omega) (by omega),Dm (i:=e - 1 - mm) (by omega) (by omega)] at this;intro x hx y hy;have u1:=cQ.le_take sB (s:=e - mm) (c:=f (B.getD (e - 1 - mm) 0)) (by omega) (.inr (by rw[show e - mm - 1=e - 1 - mm by omega];exact qQ _)) x hx;have u2:=cQ.ge_drop sA (s:=s - a) (c:=f (A.getD (s - a) 0)) (.inr (qQ _)) y hy;omega
    have k1':SD m0 nm N L m1 ((pre++A.take (s - a))++(A.drop (s - a)++(B.take (e - mm)++(B.drop (e - mm)++post)))):=by
     rw[<- ga (B.take (e - mm)),eB,ga,<- ga (A.take (s - a)),eA];exact k1
    have turn:∃ m2,((ag .other .lss (ni s) (ni mm)).bind fun v2=>aw v2 ((ag .other .lss (ni mm) (ni e)).bind fun v3=>aw v3 ((AC ae 186 [.arr nm 0 L none,ni s,ni mm,ni e,.fn 67 [p]] m1).bind fun r=>wW (.arr nm 0 L none) (ni a) (ni s) (ni mid) (ni e) (ni b) (.fn 67 [p]) r.2) (wW (.arr nm 0 L none) (ni a) (ni s) (ni mid) (ni e) (ni b) (.fn 67 [p]) m1)) (wW (.arr nm 0 L none) (ni a) (ni s) (ni mid) (ni e) (ni b) (.fn 67 [p]) m1))=wW (.arr nm 0 L none) (ni a) (ni s) (ni mid) (ni e) (ni b) (.fn 67 [p]) m2/\SD m0 nm N L m2 ((pre++A.take (s - a))++(B.take (e - mm)++(A.drop (s - a)++(B.drop (e - mm)++post)))):=by
     rw[bg,aa,az]
     by_cases hs:s < mm
     ·rw[an (by omega),bg,aa,az]
      by_cases DR:mm < e
      ·rw[an (by omega)];obtain ⟨m2,er,k2⟩:=ZJ hL (.fn 67 [p]) (uA (by omega)) (uA (by omega)) k1' (a:=s) (mm:=mm) (b:=e) (by rw[aI,tA];omega) (by omega) (by omega);exact ⟨m2,by rw[er,aa],k2⟩
      ·rw[aj (by omega)];refine ⟨m1,rfl,?_⟩;rw[show B.take (e - mm)=[] from nY (by omega)] at k1' ⊢;simpa using k1'
     ·rw[aj (by omega)];refine ⟨m1,rfl,?_⟩;rw[show A.drop (s - a)=[] from nY (by omega)] at k1' ⊢;simpa using k1'
    obtain ⟨m2,et,k2⟩:=turn;rw[et];have s1:cQ f (A.take (s - a)):=Cs (List.take_sublist _ _) sA;have s2:cQ f (A.drop (s - a)):=Cs (List.drop_sublist _ _) sA;have s3:cQ f (B.take (e - mm)):=Cs (List.take_sublist _ _) sB;have s4:cQ f (B.drop (e - mm)):=Cs (List.drop_sublist _ _) sB;obtain ⟨m3,M1,e3,k3,p3,r3⟩:=XB (ih (mid - a) (by omega)) (pre:=pre) (A:=A.take (s - a)) (B:=B.take (e - mm)) (post:=A.drop (s - a)++(B.drop (e - mm)++post)) (m:=m2) (a:=a) (mm:=s) (b:=mid) (by omega) s1 s3 (by simpa using k2) ha (by omega) (by omega) (fun q=>Eb (.arr nm 0 L none) (ni mid) (ni e) (ni b) (.fn 67 [p]) q);have e3:wW (.arr nm 0 L none) (ni a) (ni s) (ni mid) (ni e) (ni b) (.fn 67 [p]) m2=Eb (.arr nm 0 L none) (ni mid) (ni e) (ni b) (.fn 67 [p]) m3:=e3;rw[e3];have lM1:M1.length=mid - a:=by rw[p3.length_eq,aI];omega
    obtain ⟨m4,M2,e4,k4,p4,r4⟩:=XB (ih (b - mid) (by omega)) (pre:=pre++M1) (A:=A.drop (s - a)) (B:=B.drop (e - mm)) (post:=post) (m:=m3) (a:=mid) (mm:=e) (b:=b) (by omega) s2 s4 (by simpa using k3) (by rw[aI];omega) (by omega) (by omega) (fun q=>some ((.tup []:AV),q));obtain ⟨w1,w2⟩:=cQ.both (by rw[eA];exact sA) (by rw[eB];exact sB) b1 b2 p3 p4 r3 r4;rw[eA,eB] at w2;exact ⟨m4,M1++M2,e4,by simpa using k4,w2,w1⟩
theorem qgs (hL:L<=100000) (hc:ql m0 nm N p f):∀ (k:Nat) (F R:List Nat) (m:af),R.length=k->Full f 20 F->SD m0 nm N L m (F++R) ->
  ∃ (m':af) (l':List Nat),Cd (.arr nm 0 L none) (ni L) (.fn 67 [p]) (.int .i64 20) (ni F.length) (ni (F.length+20)) m (Ff (aF ae.P f125.results.toList))=vO (.arr nm 0 L none) (ni L) (.fn 67 [p]) (.int .i64 20) m' (xC (aF ae.P f125.results.toList))/\SD m0 nm N L m' l'/\l'.Perm (F++R)/\Runs f 20 l':=by
 intro k
 induction k using Nat.strongRecOn with
 | ind k ih=>
  intro F R m hk hF h;have hl:=h.hl;simp only[aI] at hl
  by_cases hb:20<=R.length
  ·have tX:(R.take 20).length=20:=by rw[ji];omega
   obtain ⟨m1,X',e1,k1,p1,s1⟩:=PE hL hc (pre:=F) (X:=R.take 20) (post:=R.drop 20) (m:=m) (by rw[n5];exact h) (a:=F.length) (b:=F.length+20) rfl (by omega);have lX:X'.length=20:=by rw[p1.length_eq];exact tX
   obtain ⟨m',l',e2,k2,p2,r2⟩:=ih (R.drop 20).length (by rw[qS];omega) (F++X') (R.drop 20) m1 rfl (.more F X' hF lX s1) (by simpa using k1)
   refine ⟨m',l',?_,k2,p2.trans ?_,r2⟩
   ·rw[Qe,sg,aa,az,an (by omega),e1,aa,show (AV.int .i64 20)=ni 20 from rfl,kM (by omega),aa];rw[aI,lX] at e2;exact e2
   ·rw[ga];refine Cu F ?_;have:=p1.append_right (R.drop 20)
    rwa [n5] at this
  ·obtain ⟨m1,X',e1,k1,p1,s1⟩:=PE hL hc (pre:=F) (X:=R) (post:=[]) (m:=m) (by simpa using h) (a:=F.length) (b:=L) rfl (by omega);refine ⟨m1,F++X',?_,by simpa using k1,Cu F p1,hF.runs _ (.last _ (by rw[p1.length_eq];omega) s1)⟩;rw[Qe,sg,aa,az,aj (by omega),qaY,e1,aa]
theorem qgt (hL:L<=100000) (hc:ql m0 nm N p f) {bs:Nat} (om:0 < bs) (pB:bs < L):∀ (k:Nat) (F R:List Nat) (m:af),R.length=k->Full f (2 * bs) F->Runs f bs R->SD m0 nm N L m (F++R) ->
  ∃ (m':af) (l':List Nat),FN (.arr nm 0 L none) (ni L) (.fn 67 [p]) (ni bs) (ni F.length) (ni (F.length+2 * bs)) m (JN (xC (aF ae.P f125.results.toList)))=vO (.arr nm 0 L none) (ni L) (.fn 67 [p]) (ni (bs * 2)) m' (xC (aF ae.P f125.results.toList))/\SD m0 nm N L m' l'/\l'.Perm (F++R)/\Runs f (2 * bs) l':=by
 intro k
 induction k using Nat.strongRecOn with
 | ind k ih=>
  intro F R m hk hF hR h;have hl:=h.hl;simp only[aI] at hl;have e2i:(AV.int .i64 2)=ni 2:=rfl
  by_cases hb:2 * bs<=R.length
  ·obtain ⟨x1,R1,rfl,lx1,sx1,HP⟩:=hR.two om (by omega);simp only[aI] at hb hl
   obtain ⟨x2,R2,rfl,lx2,sx2,UA⟩:∃ x r,R1=x++r/\x.length=bs/\cQ f x/\Runs f bs r:=by
    by_cases hq:bs < R1.length
    ·exact HP.two om hq
    ·exact ⟨R1,[],by simp,by omega,HP.one (by omega),.last [] (by simp) List.Pairwise.nil⟩
   obtain ⟨m1,M,e1,k1,p1,s1⟩:=PF hL hc _ F x1 x2 R2 m F.length (F.length+bs) (F.length+2 * bs) rfl (uA (by omega)) (uA (by omega)) sx1 sx2 (by simpa using h) rfl (by omega) (by omega);have lM:M.length=2 * bs:=by rw[p1.length_eq,aI];omega
   obtain ⟨m',l',e2,k2,p2,r2⟩:=ih R2.length (by rw[<- hk];simp;omega) (F++M) R2 m1 rfl (.more F M hF lM s1) UA (by simpa using k1);simp only[aI] at hl
   refine ⟨m',l',?_,k2,p2.trans ?_,r2⟩
   ·rw[Qg,sg,aa,az,an (by omega),kM (by omega),aa,e1,aa,e2i,we,show ((2:Nat):Int) * (bs:Nat)=((2 * bs:Nat):Int) by omega,iK (by omega) (by omega),aa,kM (by omega),aa];rw[aI,lM] at e2;exact e2
   ·rw[ga,<- ga x1];exact Cu F (p1.append_right R2)
  ·have e2m:ag .other .mul (ni bs) (.int .i64 2)=some (ni (bs * 2)):=by
    rw[e2i,we,show (bs:Int) * (2:Nat)=((bs * 2:Nat):Int) by omega,iK (by omega) (by omega)]
   rw[Qg,sg,aa,az,aj (by omega),qa4,kM (by omega),aa,bg,aa,az,e2m]
   by_cases hq:bs < R.length
   ·rw[an (by omega)];obtain ⟨x1,R1,rfl,lx1,sx1,HP⟩:=hR.two om hq;simp only[aI] at hb hl hq;obtain ⟨m1,M,e1,k1,p1,s1⟩:=PF hL hc _ F x1 R1 [] m F.length (F.length+bs) L rfl (uA (by omega)) (uA (by omega)) sx1 (HP.one (by omega)) (by simpa using h) rfl (by omega) (by omega);refine ⟨m1,F++M,?_,by simpa using k1,Cu F p1,hF.runs _ (.last _ (by rw[p1.length_eq,aI];omega) s1)⟩;rw[e1,aa,aa]
   ·rw[aj (by omega)];exact ⟨m,F++R,by rw[aa],h,List.Perm.refl _,hF.runs _ (.last _ (by omega) (hR.one (by omega)))⟩
theorem qgu (hL:L<=100000) (hc:ql m0 nm N p f):∀ (k bs:Nat) (l:List Nat) (m:af),L - bs=k->0 < bs->bs < 1000000->Runs f bs l->SD m0 nm N L m l ->
  ∃ (m':af) (l':List Nat),vO (.arr nm 0 L none) (ni L) (.fn 67 [p]) (ni bs) m (xC (aF ae.P f125.results.toList))=some (.tup [],m')/\SD m0 nm N L m' l'/\l'.Perm l/\cQ f l':=by
 intro k
 induction k using Nat.strongRecOn with
 | ind k ih=>
  intro bs l m hk h0 hbb hR h
  by_cases hb:bs < L
  ·obtain ⟨m1,l1,e1,k1,p1,r1⟩:=qgt hL hc h0 hb _ [] l m rfl .nil hR (by simpa using h);obtain ⟨m',l',e2,k2,p2,s2⟩:=ih (L - bs * 2) (by omega) (bs * 2) l1 m1 rfl (by omega) (by omega) (by rw[cP];exact r1) k1;refine ⟨m',l',?_,k2,p2.trans (by simpa using p1),s2⟩;rw[Qf,bg,aa,az,an (by omega),show (AV.int .i64 2)=ni 2 from rfl,we,show ((2:Nat):Int) * (bs:Nat)=((0+2 * bs:Nat):Int) by omega,iK (by omega) (by omega),aa];rw[<- e2];exact e1
  ·refine ⟨m,l,?_,h,List.Perm.refl _,hR.one (by rw[h.hl];omega)⟩;rw[Qf,bg,aa,az,aj (by omega),qa0]
theorem ZU (hL:L<=100000) (hc:ql m0 nm N p f) {l:List Nat} {m:af} (h:SD m0 nm N L m l):∃ (m':af) (l':List Nat),AC ae 66 [.arr nm 0 L none,.fn 67 [p]] m=some (.tup [],m')/\SD m0 nm N L m' l'/\l'.Perm l/\cQ f l':=by
 obtain ⟨m1,l1,e1,k1,p1,r1⟩:=qgs hL hc _ [] l m rfl .nil (by simpa using h);obtain ⟨m',l',e2,k2,p2,s2⟩:=qgu hL hc _ 20 l1 m1 rfl (by omega) (by omega) r1 k1;refine ⟨m',l',?_,k2,p2.trans (by simpa using p1),s2⟩;have e1:Cd (.arr nm 0 L none) (ni L) (.fn 67 [p]) (.int .i64 20) (.int .i64 0) (.int .i64 20) m (Ff (aF ae.P f125.results.toList))=_:=e1;have e2:vO (.arr nm 0 L none) (ni L) (.fn 67 [p]) (.int .i64 20) m1 (xC (aF ae.P f125.results.toList))=_:=e2;rw[T66,show aK false (.arr nm 0 L none)=some (ni L) from rfl,aa,qfk,e1,e2,aa]
end
end Go.Ab
namespace Go.Ab
noncomputable section
open Go.Proofs.Tryz
theorem T65 (a0 a1:AV) (m:af):AC ae 65 [a0,a1] m=(eR none none m a0).bind fun r1=>(ai none (aA none r1.2 (.obj true [au])).2 r1.1).bind fun v2=>(iD v2).bind fun v3=>(aS 1 v3).bind fun v4=>(ai none (aA none r1.2 (.obj true [au])).2 v4).bind fun v5=>(aK false v5).bind fun v6=>(iV none 4 none (.bool false) 1 (aA none r1.2 (.obj true [au])).2 v6 v6).bind fun r7=>(aN none (aA none r7.2 (.obj true [au])).2 (.ptr (aA none r7.2 .resv).1 0) r7.1).bind fun m8=>(aN none (aA none m8 (.obj true [.nilf])).2 (.ptr (aA none m8 .resv).1 0) (.fn 124 [(.ptr (aA none r7.2 .resv).1 0),r1.1,(.ptr (aA none m8 .resv).1 0),(.ptr (aA none r1.2 .resv).1 0)])).bind fun m9=>(ai none m9 (.ptr (aA none m8 .resv).1 0)).bind fun v10=>(lp v10).bind fun g11=>jU ae 65 (AP ae) (AC ae) none g11.1 ([a1]++g11.2) m9 fun v12 m13=>(ai none m13 (.ptr (aA none r1.2 .resv).1 0)).bind fun bj=>some (bj,m13):=
(bh ae 65 [a0,a1] m (fn:=f65) (c:=aC f65) qiN rfl).trans (by kernel_rfl)
def Kw (x0 x4:AV) (m:af):St:=⟨(x0::aO (aH (x4::bD (aY (aP (aO (aH []))))))),m⟩
def Cc (x0 x3 x4 bW bY cr:AV) (m:af) (K:KT):OM:=b8 124 (ck (c2 (c2 (aC f124)))) 3 (x0::aO (x3::x4::bD (aH (bW::bY::cr::aY (aO (aH [])))))) m K
abbrev qaT (K:KT):KT:=bF 124 (c2 (c2 (c2 (aC f124)))) K
abbrev qaU (K:KT):KT:=bu 0 (qaT K)
abbrev B4 (K:KT):KT:=(qaU K)
theorem RG (a0 a1 a2 a3 a4:AV) (m:af):AC ae 124 [a0,a1,a2,a3,a4] m=(ai none m a1).bind fun v1=>(aG none v1 a0).bind fun v2=>(ai none m v2).bind fun v3=>aw v3 (some ((.tup []),m)) ((ai none m a1).bind fun v4=>(aG none v4 a0).bind fun v5=>(aN none m v5 (.bool true)).bind fun m6=>(ai none m6 a2).bind fun v7=>(iD v7).bind fun v8=>(aS 1 v8).bind fun v9=>(ai none m6 v9).bind fun v10=>(aG (some 3) v10 a0).bind fun v11=>(aS 1 v11).bind fun v12=>(ai none m6 v12).bind fun bp=>(aK false bp).bind fun bj=>Cc a0 a3 a4 bp bj (.int .i64 0) m6 (B4 (aF ae.P f124.results.toList))):=
(bh ae 124 [a0,a1,a2,a3,a4] m (fn:=f124) (c:=aC f124) qhA rfl).trans (by kernel_rfl)
theorem Qd (x0 x3 x4 bW bY cr:AV) (m:af) (K:KT):Cc x0 x3 x4 bW bY cr m K=(ag .other .lss cr bY).bind fun v1=>aw v1 ((aG none bW cr).bind fun v2=>(ai none m v2).bind fun v3=>(ai none m x3).bind fun v4=>(lp v4).bind fun g5=>jU ae 124 (AP ae) (AC ae) none g5.1 ([v3]++g5.2) m fun v6 m7=>(ag .other .add cr (.int .i64 1)).bind fun v8=>Cc x0 x3 x4 bW bY v8 m7 K) (K (.exit 0) (Kw x0 x4 m)):=
(b7 (bX _) _ _ _).trans (by kernel_rfl)
theorem qaV (x0 x4:AV) (m:af):B4 (aF ae.P f124.results.toList) (.exit 0) (Kw x0 x4 m)=(ai none m x4).bind fun v1=>(fh none [x0]).bind fun v2=>(cg none true 3 none 8 m v1 v2).bind fun r3=>(aN none r3.2 x4 r3.1).bind fun m4=>some ((.tup []),m4):=by kernel_rfl
theorem qfb (a0:AV) (m:af):AC ae 106 [a0] m=(eR none (some 3) m a0).bind fun r1=>(aS 2 r1.1).bind fun v2=>(ai none r1.2 v2).bind fun v3=>(aS 0 r1.1).bind fun v4=>(ai none r1.2 v4).bind fun v5=>(ag .other .lss v5 (.int .i64 0)).bind fun v6=>some ((.tup [v3,v6]),r1.2):=
(bh ae 106 [a0] m (fn:=f106) (c:=aC f106) qhn rfl).trans (by kernel_rfl)
end
end Go.Ab
namespace Go.Ab
open Go.Proofs Go.Proofs.Tryz
theorem oV {m:af} {nm:Nat} {b:Bool} {v:AV} (h:m.get nm=some (.obj b [v])):ai none m (.ptr nm 0)=some v:=by
 rw[eY,h,j7,aa];rfl
theorem qoH {m:af} {nm:Nat} {b:Bool} {v0 v:AV} (h:m.get nm=some (.obj b [v0])) (hv:cZ none v=true) (hc:v.cells=[v]):aN none m (.ptr nm 0) v=some (m.set nm (some (.obj b [v]))):=by
 rw[qh,h,j7,aa];simp[cO,Sh.size,hv,bC,hc]
theorem qmo {m:af} {nm i:Nat} {ds:List Bool} (h:m.get nm=some (.obj false (ds.map .bool))) (hi:i < ds.length):ai none m (.ptr nm i)=some (.bool (ds.getD i false)):=by
 rw[eY,h,j7,aa,uP,n0,bA hi,aT,bA hi];rfl
theorem qoG {m:af} {nm i:Nat} {ds:List Bool} {y:Bool} (h:m.get nm=some (.obj false (ds.map .bool))) (hi:i < ds.length):aN none m (.ptr nm i) (.bool y)=some (m.set nm (some (.obj false ((ds.set i y).map .bool)))):=by
 have hg:m.obj? nm=some (false,ds.map .bool):=by rw[p9,h];rfl
 have h1:i+1<=ds.length:=hi;simp only[aN,hg,aa,Sh.size,bU,h1,bq,cZ,ff,AV.cells];congr 4;simp only[bC,aJ,aM];rw[List.map_set,CA];simp[hi,xL,List.map_drop]
theorem TX (a b c:AV):aS 1 (.vptr [a,b,c])=some (.vptr [b,c]):=rfl
theorem L6 (a b c:AV):aS 0 (.vptr [a,b,c])=some (.vptr [a,b,c]):=rfl
theorem f2v (a b c:AV):aS 2 (.vptr [a,b,c])=some (.vptr [c]):=rfl
theorem V7 (m:af) (a b:AV):ai none m (.vptr [a,b])=some a:=rfl
theorem Ek (s:Nat) (m:af) (e:Ent):aA (some s) m e=(s,m.set s (some e)):=rfl
inductive GA (m:af):AV->List Nat->List Nat->Prop
 | none:GA m au [] []
 | some (t:Nat) (l:List Nat) (h:m.get t=some (.obj false (ds l))) (hne:l≠[]):GA m (.arr t 0 l.length none) l [t]
theorem Uk {m m':af} {x:AV} {l T:List Nat} (h:GA m x l T) (hm:∀ y∈T,m'.get y=m.get y):GA m' x l T:=by
 cases h with
 | none=>exact .none
 | some t l h hne=>exact .some t l ((hm t (by simp)).trans h) hne
theorem Ul {m:af} {x:AV} {l T:List Nat} (h:GA m x l T):cZ none x=true/\x.cells=[x]:=by
 cases h<;>exact ⟨rfl,rfl⟩
theorem qkG {m:af} {x:AV} {l T:List Nat} (h:GA m x l T) (hl:l.length<=100000) (v:Nat):∃ x' m' T',cg none true 3 none 8 m x (.lst none false .full [ni v])=some (x',m')/\GA m' x' (l++[v]) T'/\Fr m m' T/\Gr m T T':=by
 cases h with
 | none=>
  have ha:cg none true 3 none 8 m au (.lst none false .full [ni v])=some (.arr m.length 0 1 none,m++[some (.obj false [ni v])]):=by
   simp only[cg,aM,aJ,bf,bq,or_true,bE,aA]
   rfl
  refine ⟨_,_,[m.length],ha,.some m.length [v] (by rw[bV rfl];rfl) (by simp),Fr.app m _ _,fun k hk=>?_⟩;obtain rfl:k=m.length:=by simpa using hk
  exact .inr (aR _)
 | some t l hg hne=>
  have iU:=xJ.2 hne;have gF:=bJ hg;have ho:m.obj? t=some (false,ds l):=by rw[p9,hg];rfl
  have hY:zf m none (.lst none false .full [ni v])=some (1,[ni v]):=rfl
  have hX:xc m none (.arr t 0 l.length none)=some (l.length,ds l,m.set t none):=by
   simp only[xc,ho,aa];rw[an ⟨trivial,trivial,iU,trivial,by simp[Sh.size,LZ]⟩]
  have ha:cg none true 3 none 8 m (.arr t 0 l.length none) (.lst none false .full [ni v])=some (.arr (m.set t none).length 0 (l.length+1) none,m.set t none++[some (.obj false (ds l++[ni v]))]):=by
   simp only[cg,uJ,hY,hX,aa];rw[an (show (l.length+1) * 8<=gL by unfold gL;omega)]
  have e:ds l++[ni v]=ds (l++[v]):=by simp[ds]
  have e2:l.length+1=(l++[v]).length:=by simp
  refine ⟨_,_,[(m.set t none).length],by rw[ha,e,e2],.some _ (l++[v]) (by rw[bV rfl]) (by simp),((Fr.refl m [t]).set _ (.inl (by simp))).snoc _,fun k hk=>?_⟩;obtain rfl:k=(m.set t none).length:=by simpa using hk
  exact .inr (by simp)
structure LS (m0 m:af) (b s:Nat) (sb:List Bool) (out:List Nat) (x:AV) (T:List Nat):Prop where
 hb:b=m0.length
 fr:Fr m0 m []
 h0:m.get b=some (.obj true [.ptr s 0])
 h1:m.get (b+1)=some (.obj true [x])
 h2:m.get (b+2)=some (.obj false (sb.map .bool))
 h3:m.get (b+3)=some (.obj true [.arr (b+2) 0 sb.length none])
 h4:m.get (b+4)=some (.obj true [.fn 124 [.ptr (b+3) 0,.ptr b 0,.ptr (b+4) 0,.ptr (b+1) 0]])
 gr:GA m x out T
 hT:∀ y∈T,b+5<=y
theorem sU:∀ (n:Nat) (l:List Nat),l.Nodup->(∀ x∈l,x < n)->l.length<=n
 | 0,[],_,_=>aR _
 | 0,x::l,_,h=>by have:=h x fJ;omega
 | n+1,l,hn,h=>by
  by_cases hm:n∈l
  ·have e:=List.length_erase_of_mem hm
   have:=sU n (l.erase n) (hn.erase n) fun x hx=>by
    have h1:=(hn.mem_erase_iff).1 hx;have:=h x h1.2;have:=h1.1;omega
   omega
  ·have:=sU n l hn fun x hx=>by
    have h1:=h x hx;have:x≠n:=fun e=>hm (e▸hx);omega
   omega
section
variable {m0:af} {b s:Nat} {F:List Nat} {arms:AV} {most:Int} {l:List ND} {ar:List Int}
def PO (l:List ND) (m0:af) (b s id:Nat):Prop:=∀ (m:af) (sb:List Bool) (out:List Nat) (x:AV) (T:List Nat),LS m0 m b s sb out x T->sb.length=l.length->Cl l out->(∀ i,i<=id->sb.getD i false=decide (i∈out)) ->
 ∃ (m':af) (sb':List Bool) (x':AV) (T':List Nat),AC ae 124 [.int .i64 id,.ptr (b+3) 0,.ptr b 0,.ptr (b+4) 0,.ptr (b+1) 0] m=some (.tup [],m')/\LS m0 m' b s sb' (Vi l id out) x' T'/\sb'.length=l.length /\
  (∀ i,i<=id->sb'.getD i false=decide (i∈Vi l id out))/\∀ i,id < i->sb'.getD i false=sb.getD i false
theorem qpK (g:GoodL ar l) {id:Nat} (hid:id < l.length) (fq:l.length<=100000) (ih:∀ k,k < id->PO l m0 b s k) {z:Bool} {o:Own} {kids:List Int} (hk:∀ k∈kids,∃ t:Nat,k=t/\t < id) (fL:kids.length<=1000):∀ (j i:Nat) (m:af) (sb:List Bool) (out:List Nat) (x:AV) (T:List Nat),i+j=kids.length->LS m0 m b s sb out x T->sb.length=l.length->Cl l out->(∀ i,i < id->sb.getD i false=decide (i∈out)) ->
  ∃ (m':af) (sb':List Bool) (x':AV) (T':List Nat),Cc (.int .i64 id) (.ptr (b+4) 0) (.ptr (b+1) 0) (IA z o kids) (.int .i64 kids.length) (.int .i64 i) m (B4 (aF ae.P f124.results.toList))=B4 (aF ae.P f124.results.toList) (.exit 0) (Kw (.int .i64 id) (.ptr (b+1) 0) m') /\
   LS m0 m' b s sb' (iq l (kids.drop i) out) x' T'/\sb'.length=l.length/\(∀ i,i < id->sb'.getD i false=decide (i∈iq l (kids.drop i) out)\/True)/\(∀ q,q < id->sb'.getD q false=decide (q∈iq l (kids.drop i) out))/\∀ q,id<=q->sb'.getD q false=sb.getD q false:=by
 intro j
 induction j with
 | zero=>
  intro i m sb out x T hi h mG hc wP
  refine ⟨m,sb,x,T,?_,?_,mG,fun _ _=>.inr trivial,?_,fun _ _=>rfl⟩
  ·rw[Qd,bg,aa,az,aj (by omega)]
  ·rw[jA (by omega)];exact h
  ·rw[jA (by omega)];exact wP
 | succ j ihj=>
  intro i m sb out x T hi h mG hc wP;have cq:i < kids.length:=by omega
  obtain ⟨t,et,ht⟩:=hk _ (bM cq);obtain ⟨m1,sb1,x1,T1,e1,k1,k2,k3,k4⟩:=ih t ht m sb out x T h mG hc (fun q hq=>wP q (by omega));obtain ⟨c1,c2,r,c3,c4⟩:=qs g t (by omega) out hc
  have qlP:∀ q,q < id->sb1.getD q false=decide (q∈Vi l t out):=fun q hq=>by
   by_cases hqt:q<=t
   ·exact k3 q hqt
   ·rw[k4 q (by omega),wP q hq];refine jD.2 ⟨fun hh=>by rw[c3];exact Ad _ hh,fun hh=>?_⟩;rw[c3] at hh
    rcases im.1 hh with hh | hh
    ·exact hh
    ·have:=c4 q hh;omega
  obtain ⟨m',sb',x',T',e2,n1,n2,_,n3,n4⟩:=ihj (i+1) m1 sb1 (Vi l t out) x1 T1 (by omega) k1 k2 c1 qlP
  have ed:iq l (kids.drop i) out=iq l (kids.drop (i+1)) (Vi l t out):=by
   rw[kP cq,CT,et,cK]
  refine ⟨m',sb',x',T',?_,by rw[ed];exact n1,n2,fun _ _=>.inr trivial,by rw[ed];exact n3,fun q hq=>by rw[n4 q hq,k4 q (by omega)]⟩;have e1:AC ae 124 ([.int .i64 kids[i]]++[.ptr (b+3) 0,.ptr b 0,.ptr (b+4) 0,.ptr (b+1) 0]) m=some (.tup [],m1):=by rw[et];exact e1
  rw[Qd,bg,aa,az,an (by omega),j6 cq,aa,gz,aa,oV h.h4,aa,show lp (.fn 124 [.ptr (b+3) 0,.ptr b 0,.ptr (b+4) 0,.ptr (b+1) 0])=some (124,[.ptr (b+3) 0,.ptr b 0,.ptr (b+4) 0,.ptr (b+1) 0]) from rfl,aa,tw rfl rfl rfl,e1,aa,cG (by omega),aa];exact e2
theorem ZX (h0:eQ m0 s F arms most l) (hb:b=m0.length) (g:GoodL ar l) (fq:l.length<=100000):∀ id,id < l.length->PO l m0 b s id:=by
 intro id
 induction id using Nat.strongRecOn with
 | ind id ih=>
  intro hid m sb out x T h mG hc wP;have Ih:=wP id (aR _);have ld3:=oV h.h3;have MQ:aG none (.arr (b+2) 0 sb.length none) (.int .i64 id)=some (.ptr (b+2) id):=fU (by omega);have st:=h0.app h.fr;obtain ⟨p,na,TT,st,_⟩:=st;have hs:=st.hs;have yI:=Ei st.hn hid;have lb:=qmo h.h2 (i:=id) (by omega);have b2:=bJ h.h2;have b4:=bJ h.h4
  have hsm:s < m0.length:=by
   obtain ⟨p,na,TT,st0,_⟩:=h0;exact bJ st0.hs
  by_cases hm:id∈out
  ·rw[eT hm] at Ih
   refine ⟨m,sb,x,T,?_,?_,mG,?_,fun _ _=>rfl⟩
   ·rw[RG,ld3,aa,MQ,aa,lb,aa,Ih,mJ]
   ·rw[tt g hid,an hm];exact h
   ·rw[tt g hid,an hm];exact wP
  ·rw[dk hm] at Ih;have sbq:=qoG (y:=true) h.h2 (i:=id) (by omega)
   have h':LS m0 (m.set (b+2) (some (.obj false ((sb.set id true).map .bool)))) b s (sb.set id true) out x T:=by
    refine ⟨hb,h.fr.set _ (.inr (by omega)),?_,?_,?_,?_,?_,?_,h.hT⟩
    ·rw[cF (by omega)];exact h.h0
    ·rw[cF (by omega)];exact h.h1
    ·exact dM rfl b2
    ·rw[cF (by omega),aZ];exact h.h3
    ·rw[cF (by omega)];exact h.h4
    ·exact Uk h.gr fun y hy=>cF (by have:=h.hT y hy;omega)
   have qlO:∀ q,q < id->(sb.set id true).getD q false=decide (q∈out):=fun q hq=>by
    rw[aT,Gt (by omega),<- aT];exact wP q (by omega)
   have AT:=uc (st.ok _ (bM hid))
   have fL:l[id].kids.length<=1000:=by
    rcases st.ok _ (bM hid) with ⟨_,h2,_⟩ | ⟨_,_,_,_,h5⟩
    ·rw[h2];simp
    ·omega
   obtain ⟨m1,sb1,x1,T1,e1,k1,k2,_,k3,k4⟩:=qpK g hid fq (fun k hk=>ih k hk (by omega)) (z:=kz l[id]) (o:=ko l[id]) (kids:=l[id].kids) (fun k hk=>pF g hid k hk) fL l[id].kids.length 0 _ _ out x T (by omega) h' (by rw[aZ];exact mG) hc qlO;rw[jT] at k1 k3;obtain ⟨c1,c2,r,c3,c4⟩:=Ln g hid l[id].kids (fun k hk=>pF g hid k hk) out hc
   have ja:(iq l l[id].kids out).length<=l.length:=by
    exact sU _ _ c1.nd c1.lt
   obtain ⟨x2,m2,T2,ea,g2,f2,gg2⟩:=qkG k1.gr (by omega) id;have hne:∀ q,q < b+5->q∉T1:=fun q hq hT=>by have:=k1.hT q hT;omega
   have ge:∀ q,q < b+5->m2.get q=m1.get q:=fun q hq=>f2.get q (by have:=bJ k1.h4;omega) (hne q hq);have mW:=bJ k1.h4;have qpQ:=f2.len;have g21:m2.get (b+1)=some (.obj true [x1]):=by rw[ge _ (by omega)];exact k1.h1
   have eV:Vi l id out=iq l l[id].kids out++[id]:=by rw[tt g hid,aj hm]
   have sx:aN none m2 (.ptr (b+1) 0) x2=some (m2.set (b+1) (some (.obj true [x2]))):=qoH g21 (Ul g2).1 (Ul g2).2
   refine ⟨m2.set (b+1) (some (.obj true [x2])),sb1,x2,T2,?_,?_,k2,?_,?_⟩
   ·rw[RG,ld3,aa,MQ,aa,lb,aa,Ih,ig];rw[aa,MQ,aa,sbq,aa,oV h'.h0,aa,oY,aa,gg,aa]
    have ldna:ai none (m.set (b+2) (some (.obj false ((sb.set id true).map .bool)))) (.ptr s (0+1))=some na:=by
     rw[eY,cF (by omega),hs];rfl
    rw[ldna,aa,yI,aa,TX,aa,V7,aa,AT,iI,aa];have e1:Cc (.int .i64 id) (.ptr (b+4) 0) (.ptr (b+1) 0) (IA (kz l[id]) (ko l[id]) l[id].kids) (.int .i64 l[id].kids.length) (.int .i64 0) (m.set (b+2) (some (.obj false ((sb.set id true).map .bool)))) (B4 (aF ae.P f124.results.toList))=_:=e1;rw[e1,qaV,oV k1.h1,aa,rh,aa,ea,aa,sx,aa]
   ·rw[eV]
    refine ⟨hb,(Fr.trans k1.fr f2 fun y hy=>.inr (by have:=k1.hT y hy;omega)).set _ (.inr (by omega)),?_,?_,?_,?_,?_,?_,?_⟩
    ·rw[cF (by omega),ge _ (by omega)];exact k1.h0
    ·exact dM rfl (by omega)
    ·rw[cF (by omega),ge _ (by omega)];exact k1.h2
    ·rw[cF (by omega),ge _ (by omega)];exact k1.h3
    ·rw[cF (by omega),ge _ (by omega)];exact k1.h4
    ·refine Uk g2 fun y hy=>cF ?_
     rcases gg2 y hy with hh | hh
     ·have:=k1.hT y hh;omega
     ·omega
    ·intro y hy
     rcases gg2 y hy with hh | hh
     ·exact k1.hT y hh
     ·omega
   ·intro q hq;rw[eV]
    by_cases Vy:q=id
    ·subst Vy;rw[k4 q (aR _),aT,Cv (by omega),fg];exact (eT (by simp)).symm
    ·rw[k3 q (by omega)];refine jD.2 ⟨fun hh=>Ad _ hh,fun hh=>?_⟩
     rcases im.1 hh with hh | hh
     ·exact hh
     ·exact absurd (by simpa using hh) Vy
   ·intro q hq;rw[k4 q (by omega),aT,Gt (by omega),<- aT]
theorem qmH (m:af) (n:Nat) (h:n<=100000):iV none 4 none (.bool false) 1 m (.int .i64 n) (.int .i64 n)=some (.arr m.length 0 n none,m++[some (Ent.obj false ((List.replicate n false).map .bool))]):=by
 have h3:(n:Int) * 1<=281474976710656:=by omega
 have h4:(n:Int)<=9223372036854775807:=by omega
 have h5:(0:Int)<=n:=by omega
 simp only[iV,aA,rN,qQ,bq,cK,List.map_replicate];rw[an ⟨h5,trivial,h3,h4⟩]
theorem JA (h0:eQ m0 s F arms most l) (g:GoodL ar l) (fq:l.length<=100000) {id:Nat} (hid:id < l.length):∃ (m':af) (x:AV) (T:List Nat),AC ae 65 [.ptr s 0,.int .i64 id] m0=some (x,m')/\GA m' x (Vi l id []) T/\Fr m0 m' []/\∀ y∈T,m0.length<=y:=by
 have hx:=h0;obtain ⟨p,na,TT,h,_⟩:=hx;have hs:=h.hs;have mG:=bJ hs
 have hlen:aK false na=some (.int .i64 l.length):=by
  cases h.hn with
  | none=>rfl
  | some t l ht=>rw[oW,bU]
 have mk:=fun m=>qmH m l.length fq;generalize hM:(List.set ((List.set (((m0++[some (Ent.obj true [.ptr s 0])])++[some (Ent.obj true [au])])++[some (Ent.obj false ((List.replicate l.length false).map .bool))]++[some (Ent.obj true [au])]) (m0.length+1+1+1) (some (Ent.obj true [.arr (m0.length+1+1) 0 l.length none])))++[some (Ent.obj true [.nilf])]) (m0.length+1+1+1+1) (some (Ent.obj true [.fn 124 [.ptr (m0.length+1+1+1) 0,.ptr m0.length 0,.ptr (m0.length+1+1+1+1) 0,.ptr (m0.length+1) 0]])))=M
 have ls:LS m0 M m0.length s (List.replicate l.length false) [] au []:=by
  rw[<- hM]
  refine ⟨rfl,?_,(by simp (disch:=(first | assumption | omega | (simp only[aI,aZ,aJ,aM];first | done | omega))) only[gK,cn,bV,cF,dM];first | done | rfl),(by simp (disch:=(first | assumption | omega | (simp only[aI,aZ,aJ,aM];first | done | omega))) only[gK,cn,bV,cF,dM];first | done | rfl),(by simp (disch:=(first | assumption | omega | (simp only[aI,aZ,aJ,aM];first | done | omega))) only[gK,cn,bV,cF,dM];first | done | rfl),?_,(by simp (disch:=(first | assumption | omega | (simp only[aI,aZ,aJ,aM];first | done | omega))) only[gK,cn,bV,cF,dM];first | done | rfl),.none,by simp⟩
  ·exact ((((((Fr.app m0 _ _).snoc _).snoc _).snoc _).set _ (.inr (by omega))).snoc _).set _ (.inr (by omega))
  ·rw[uy];exact (by simp (disch:=(first | assumption | omega | (simp only[aI,aZ,aJ,aM];first | done | omega))) only[gK,cn,bV,cF,dM];first | done | rfl)
 obtain ⟨m',sb',x',T',e,k1,_,_,_⟩:=ZX h0 rfl g fq id hid M (List.replicate l.length false) [] au [] ls (by simp) ri (fun i hi=>by
  rw[aT,Aa,an (by omega)];rfl)
 refine ⟨m',x',T',?_,k1.gr,k1.fr,fun y hy=>by have:=k1.hT y hy;omega⟩;rw[T65]
 repeat ((with_reducible (first | apply bs | apply eX));(focus (first | (simp (disch:=(first | assumption | omega | (simp only[aI,aZ,aJ,aM];first | done | omega))) only[eW,beq_self_eq_true,cO,aa,Sh.size,bq,bC,Nat.reduceAdd,Nat.reduceLeDiff,aR,hs,hlen,mk,pS];first | done | rfl) | rfl));try dsimp only)
 have en:(aA none (m0++[some (Ent.obj true [.ptr s 0])]) .resv).1=m0.length+1:=by simp[nG]
 rw[tw rfl rfl rfl,hM,List.singleton_append,e,aa,en];dsimp only;rw[oV k1.h1,aa]
end
end Go.Ab
namespace Go.Ab
open Go.Proofs Go.Proofs.Tryz
def pe:Nat->List Nat->List (AV×AV)
 | _,[]=>[]
 | k,i::l=>(.int .i64 i,.int .i64 k)::pe (k+1) l
theorem XG (n:Nat):∀ (l:List Nat) (k:Nat),pe k (l++[n])=pe k l++[(.int .i64 n,.int .i64 (k+l.length:Nat))]
 | [],k=>rfl
 | x::l,k=>by
  rw[bQ,pe,pe,XG n l (k+1)];simp only[bQ,aJ];congr 5;omega
theorem XH:∀ (l:List Nat) (k:Nat),(pe k l).length=l.length
 | [],_=>rfl
 | _::l,k=>by rw[pe,aJ,XH l,aJ]
theorem Oy {n:Nat}:∀ (l:List Nat) (k:Nat),(pe k l).find? (fun p=>jc p.1 (.int .i64 n))=if n∈l then some (.int .i64 n,.int .i64 (k+l.idxOf n:Nat)) else none
 | [],k=>rfl
 | x::l,k=>by
  have hk:jc (.int .i64 (x:Int)) (.int .i64 (n:Int))=decide (x=n):=by
   simp only[jc,uK,decide_true,il];exact jD.2 (by omega)
  rw[pe,List.find?_cons,hk]
  by_cases he:x=n
  ·subst he;simp
  ·rw[dk he];simp only[];rw[Oy l (k+1)];have:n∈x::l↔n∈l:=⟨fun h=>(gB.1 h).resolve_left (fun e=>he e.symm),fI _⟩
   by_cases hm:n∈l
   ·rw[an hm,an (this.2 hm),List.idxOf_cons,cond_eq_ite,aj (by simpa using he)];congr 3;omega
   ·rw[aj hm,aj (fun h=>hm (this.1 h))]
theorem VW {n:Nat} (h:n<=1000000):jQ (.int .i64) (.int .i64 n)=true:=by
 have h1:IntKind.min .i64<=(n:Int):=by show (-9223372036854775808:Int)<=n;omega
 have h2:(n:Int)<=IntKind.max .i64:=by show (n:Int)<=9223372036854775807;omega
 simp only[jQ,nF,ER,eT h1,eT h2,decide_true,pg]
theorem qmA {m:af} {p n:Nat} {l:List Nat} (hp:m.get p=some (.mp (.int .i64) (pe 0 l))) (hn:n<=1000000) (hm:n∈l) (z:AV):oX (.int .i64) z m (.mref p) (.int .i64 n)=some (.int .i64 (l.idxOf n:Nat),true):=by
 have h1:mc m (.int .i64) (.mref p)=some (p,pe 0 l):=by simp[mc,hp]
 unfold oX;rw[h1];simp only[aa,VW hn,bq,Bg,Oy l 0,an hm,bf]
theorem qpz {m:af} {p n:Nat} {l:List Nat} (hp:m.get p=some (.mp (.int .i64) (pe 0 l))) (hn:n<=1000000) (hm:n∉l) (hl:l.length<=100000):kO (.int .i64) m (.mref p) (.int .i64 n) (.int .i64 l.length)=some (m.set p (some (.mp (.int .i64) (pe 0 (l++[n]))))):=by
 have h1:mc m (.int .i64) (.mref p)=some (p,pe 0 l):=by simp[mc,hp]
 have h3:(pe 0 l).any (fun p=>jc p.1 (.int .i64 n))=false:=by
  have:=Oy (n:=n) l 0;rw[aj hm,List.find?_eq_none] at this;rw[List.any_eq_false];exact this
 unfold kO;rw[h1,aa,an ⟨VW hn,rfl,by rw[XH];unfold maxLen;omega⟩,XG];simp only[nK,h3,bf]
theorem Xi {e:Nat} {m:af} {x:AV} {l:List ND} {T:List Nat} (h:NR e m x l T) (hl:l.length<=100000) (n:ND):∃ x' m' T',cg none false e (some 3) 40 m x (.lst (some 3) false .full [n.av])=some (x',m')/\NR e m' x' (l++[n]) T'/\Fr m m' T/\Gr m T T':=by
 have h2:(l.length+1) * 40<=gL:=by unfold gL;omega
 cases h with
 | none=>
  refine ⟨.lst (some 3) false (.tok m.length e) [n.av],m++[some (Ent.tok 1 3)],[m.length],?_,.some _ [n] (by simp (disch:=(first | assumption | omega | (simp only[aI,aZ,aJ,aM];first | done | omega))) only[gK,cn,bV,cF,dM];first | done | rfl),Fr.app m _ _,fun k hk=>?_⟩
  ·have h2:40<=gL:=by unfold gL;omega
   simp[cg,h2,aA,Sh.size]
  ·obtain rfl:k=m.length:=by simpa using hk
   exact .inr (aR _)
 | some t es ht=>
  have gF:=bJ ht
  refine ⟨.lst (some 3) false (.tok t e) (l.map ND.av++[n.av]),m.set t (some (Ent.tok (l.length+1) 3)),[t],?_,?_,(Fr.refl m [t]).set _ (.inl (by simp)),Gr.refl _ _⟩
  ·simp[cg,ht,Sh.size,h2]
  ·have e3:l.map ND.av++[n.av]=(l++[n]).map ND.av:=by simp
   rw[e3];refine .some t (l++[n]) ?_;rw[dM rfl gF,aI];rfl
theorem YY {m:af} {x:AV} {ks:List Int} {T:List Nat} (h:GR 3 m x (ks.map (AV.int .i64)) T) {n:ND} (hk:n.kids=ks) (hn:n.ok) (hne:¬ n.var < 0->ks≠[]):∃ z o,x=.lst none z o (n.kids.map (AV.int .i64))/\qi (.lst none z o (n.kids.map (AV.int .i64)))=fc n:=by
 subst hk;generalize he:n.kids.map (AV.int .i64)=es at h
 cases h with
 | none=>
  refine ⟨true,.full,rfl,?_⟩;unfold fc
  rw[an]
  ·rfl
  ·refine Decidable.byContradiction fun hv=>hne hv (xK.1 he)
 | some t es ht H6=>
  refine ⟨false,.tok t 3,rfl,?_⟩;unfold fc
  rw[aj,he]
  ·rfl
  ·intro hv
   rcases hn with ⟨_,h2,_⟩ | ⟨h1,_⟩
   ·rw[h2] at he;exact H6 he.symm
   ·omega
section
variable {m0:af} {s:Nat} {F:List Nat} {arms:AV} {most:Int} {l:List ND} {ar:List Int}
theorem qgL {pm c:Nat} {p:List Nat} {v leaf:Int} {kids:List Int} {x0:AV} (H8:p.length<=100000) (hpb:∀ y∈p,y<=1000000) {m1:af} (hc:c < m1.length) (A0:pm < m1.length) (hne:pm≠c) {z:Bool} {o:Own} (hk:∀ k∈kids,∃ t:Nat,k=t/\t∈p) (fL:kids.length<=1000) (hp:m1.get pm=some (.mp (.int .i64) (pe 0 p))) (x6 x7 bW bY cr:AV) (hx6:x6=.mref pm) (K:KT):∀ (j i:Nat) (m:af) (x:AV) (T:List Nat),i+j=kids.length->Fr m1 m [c]->m.get c=some (.obj true [.int .i64 v,x,.int .i64 leaf])->GR 3 m x (((kids.take i).map fun k=>((p.idxOf k.toNat:Nat):Int)).map (AV.int .i64)) T->(∀ y∈T,m1.length<=y) ->
  ∃ (m':af) (x':AV) (T':List Nat),Ck x0 x6 x7 (.ptr c 0) bW bY cr (IA z o kids) (.int .i64 kids.length) (.int .i64 i) m (B5 K)=B5 K (.exit 2) (KV x0 x6 x7 (.ptr c 0) bW bY cr m')/\Fr m1 m' [c]/\m'.get c=some (.obj true [.int .i64 v,x',.int .i64 leaf])/\GR 3 m' x' ((kids.map fun k=>((p.idxOf k.toNat:Nat):Int)).map (AV.int .i64)) T'/\∀ y∈T',m1.length<=y:=by
 subst hx6;intro j
 induction j with
 | zero=>
  intro i m x T hi f hg hr hT;rw[kY (by omega)] at hr;refine ⟨m,x,T,?_,f,hg,hr,hT⟩;rw[QS,bg,aa,az,aj (by omega)]
 | succ j ih=>
  intro i m x T hi f hg hr hT;have cq:i < kids.length:=by omega
  obtain ⟨t,et,ht⟩:=hk _ (bM cq);have hcl:=bJ hg;have DL:m.get pm=some (.mp (.int .i64) (pe 0 p)):=(f.get _ A0 (by simpa using hne)).trans hp;have lk:=qmA DL (hpb t ht) ht (.int .i64 0);obtain ⟨x2,m2,T2,ea,g2,f2,gg2⟩:=AD (b:=8) hr (by simp;omega) (by omega) (.int .i64 (p.idxOf t:Nat));have hcT:c∉T:=fun h=>by have:=hT c h;omega
  have g2c:m2.get c=some (.obj true [.int .i64 v,x,.int .i64 leaf]):=(f2.get _ hcl hcT).trans hg;obtain ⟨xz,xo,rfl,_⟩:=Dr g2
  have st:aN none m2 (.ptr c (0+1)) (.lst none xz xo (((kids.take i).map fun k=>((p.idxOf k.toNat:Nat):Int)).map (AV.int .i64)++[.int .i64 (p.idxOf t:Nat)]))=some (m2.set c (some (.obj true [.int .i64 v,.lst none xz xo (((kids.take i).map fun k=>((p.idxOf k.toNat:Nat):Int)).map (AV.int .i64)++[.int .i64 (p.idxOf t:Nat)]),.int .i64 leaf]))):=by
   rw[qh,g2c,j7,aa];rfl
  have qk1:=bJ g2c
  have ek:(((kids.take i).map fun k=>((p.idxOf k.toNat:Nat):Int)).map (AV.int .i64)++[.int .i64 (p.idxOf t:Nat)])=((kids.take (i+1)).map fun k=>((p.idxOf k.toNat:Nat):Int)).map (AV.int .i64):=by
   rw[n6 cq,kX,kX,et];rfl
  obtain ⟨m',x',T',e,k⟩:=ih (i+1) (m2.set c (some (.obj true [.int .i64 v,.lst none xz xo (((kids.take i).map fun k=>((p.idxOf k.toNat:Nat):Int)).map (AV.int .i64)++[.int .i64 (p.idxOf t:Nat)]),.int .i64 leaf]))) _ T2 (by omega) ((Fr.trans f f2 fun y hy=>.inr (hT y hy)).set _ (.inl (by simp))) (dM rfl qk1) (by
   rw[<- ek]
   exact Dq g2 fun y hy=>cF (by
    rcases gg2 y hy with hh | hh
    ·have:=hT y hh;omega
    ·have:=f.len;omega)) (fun y hy=>by
   rcases gg2 y hy with hh | hh
   ·exact hT y hh
   ·have:=f.len;omega)
  refine ⟨m',x',T',?_,k⟩;have ldx:ai none m (.ptr c (0+1))=some x:=by rw[eY,hg];rfl
  rw[QS,bg,aa,az,an (by omega),j6 cq,aa,gz,aa,gg,aa,ldx,aa,et,lk,aa,rh,aa,ea,aa,aa,st,aa,cG (by omega),aa];exact e
theorem Ej (g:GoodL ar l) (fq:l.length<=100000) {p:List Nat} (hp:p.length<=100000) {id:Nat} (hid:id < l.length):(nd l p id).ok:=by
 unfold nd;rw[jk hid]
 rcases g.ok _ (bM hid) with ⟨a1,a2,a3⟩ | ⟨a1,a2,a3,a4,a5⟩
 ·refine .inl ⟨a1,?_,a3⟩;simp only[a2];rfl
 ·refine .inr ⟨a1,a2,a3,fun k hk=>?_,by simpa using a5⟩;obtain ⟨q,_,rfl⟩:=iX.1 hk;have:=List.idxOf_le_length (a:=q.toNat) (l:=p);omega
theorem qjK {p q:List Nat} (h:Cl l (p++q)):Cl l p:=by
 refine ⟨(List.nodup_append.1 h.nd).1,fun j hj=>h.lt j (Ad _ hj),fun i hi hj k hk=>?_⟩;have hi2:i < (p++q).length:=by simp;omega
 have e:(p++q)[i]=p[i]:=List.getElem_append_left hi;have oR:(p++q)[i] < l.length:=by rw[e];exact hj
 have:=h.cl i hi2 oR k (by
  have:∀ (y:Nat) (hy:y < l.length),y=p[i]->k∈l[y].kids:=fun y hy ey=>by subst ey;exact hk
  exact this _ oR e)
 rwa [List.take_append_of_le_length (by omega)] at this
theorem W25 (h0:eQ m0 s F arms most l) (g:GoodL ar l) (fq:l.length<=100000) (sD:V0 l) {pm t:Nat} (A0:m0.length=pm) (hpt:pm < t) {ids:List Nat} (hc:Cl l ids):∀ (q p:List Nat) (m:af) (y:AV) (T:List Nat),ids=p++q->Fr m0 m []->m.get pm=some (.mp (.int .i64) (pe 0 p))->NR 74 m y (eu l p) T->(∀ k∈T,t < k)->m.get t=some (.obj false (ds ids)) ->
  ∃ (m':af) (y':AV) (T':List Nat),Gj (.ptr s 0) (.mref pm) y (.arr t 0 ids.length none) (.int .i64 ids.length) (.int .i64 p.length) m (B6 (aF ae.P f43.results.toList))=some (.tup [y',.int .i64 0],m')/\NR 74 m' y' (eu l ids) T'/\Fr m0 m' []:=by
 have cq:ids.length<=l.length:=sU _ _ hc.nd hc.lt;intro q
 induction q with
 | nil=>
  intro p m y T fS f DL hn hT ht;rw[bP] at fS;subst fS;refine ⟨m,y,T,?_,hn,f⟩;rw[QT,bg,aa,az,aj (by omega),qdz]
 | cons id q ihq=>
  intro p m y T fS f DL hn hT ht;have HS:Cl l p:=by rw[fS] at hc;exact qjK hc
  have hid:id < l.length:=hc.lt id (by rw[fS];simp);have qlE:p.length < ids.length:=by rw[fS];simp
  have M9:id∉p:=fun h=>by
   rw[fS] at hc;exact (List.nodup_append.1 hc.nd).2.2 id h id fJ rfl
  have tN:∀ k∈l[id].kids,k.toNat∈p:=fun k hk=>by
   rw[fS] at hc;have e:(p++id::q)[p.length]'(by simp)=id:=by simp
   have:=hc.cl p.length (by simp) (by rw[e];exact hid) k (by
    have:∀ (y:Nat) (hy:y < l.length),y=id->k∈l[y].kids:=fun y hy ey=>by subst ey;exact hk
    exact this _ _ e)
   simpa using this
  have gY:aG none (.arr t 0 ids.length none) (.int .i64 p.length)=some (.ptr t p.length):=fU qlE
  have wH:ai none m (.ptr t p.length)=some (.int .i64 id):=by
   rw[eY,ht,j7,aa,uP];exact HD (by rw[fS];simp)
  have gF:=bJ ht;have qpY:=bJ DL;have up:=qpz DL (n:=id) (by omega) M9 (by omega);have st:=h0.app f;obtain ⟨pp,na,TT,st,hFF⟩:=st;have hs:=st.hs;have hsm:s < m0.length:=h0.lt s (by rw[hFF];simp);have yI:=Ei st.hn hid;have AT:=uc (st.ok _ (bM hid))
  have fL:l[id].kids.length<=1000:=by
   rcases st.ok _ (bM hid) with ⟨_,h2,_⟩ | ⟨_,_,_,_,h5⟩
   ·rw[h2];simp
   ·omega
  have hb:fR (.agg [(.int .i64 0),au,(.int .i64 0)]) [(0,none,.int .i64 l[id].var),(2,none,.int .i64 l[id].leaf)]=some (.agg [.int .i64 l[id].var,au,.int .i64 l[id].leaf]):=rfl;generalize hM:List.set (List.set ((m.set pm (some (.mp (.int .i64) (pe 0 (p++[id])))))++[some Ent.resv]) m.length (some (Ent.obj true [.int .i64 0,au,.int .i64 0]))) m.length (some (Ent.obj true [.int .i64 l[id].var,au,.int .i64 l[id].leaf]))=M
  have fM:Fr m0 M []:=by
   rw[<- hM];exact (((f.set _ (.inr (by omega))).snoc _).set _ (.inr (by omega))).set _ (.inr (by omega))
  have lM:M.length=m.length+1:=by rw[<- hM];simp
  have fM2:Fr m M [pm]:=by
   rw[<- hM];exact ((((Fr.refl m [pm]).set _ (.inl (by simp))).snoc _).set _ (.inr (by omega))).set _ (.inr (by omega))
  have gc:af.get M m.length=some (Ent.obj true [.int .i64 l[id].var,au,.int .i64 l[id].leaf]):=by rw[<- hM];exact (by simp (disch:=(first | assumption | omega | (simp only[aI,aZ,aJ,aM];first | done | omega))) only[gK,cn,bV,cF,dM];first | done | rfl)
  have gp:af.get M pm=some (.mp (.int .i64) (pe 0 (p++[id]))):=by rw[<- hM];exact (by simp (disch:=(first | assumption | omega | (simp only[aI,aZ,aJ,aM];first | done | omega))) only[gK,cn,bV,cF,dM];first | done | rfl)
  have qlg:∀ k∈l[id].kids,∃ t:Nat,k=t/\t∈p++[id]:=fun k hk=>by
   obtain ⟨t,rfl,_⟩:=pF g hid k hk;exact ⟨t,rfl,Ad _ (by simpa using tN _ hk)⟩
  obtain ⟨m2,xk,Tk,e13,f2,gc2,gk,uT⟩:=qgL (x0:=.ptr s 0) (pm:=pm) (c:=m.length) (p:=p++[id]) (v:=l[id].var) (leaf:=l[id].leaf) (kids:=l[id].kids) (z:=kz l[id]) (o:=ko l[id]) (m1:=M) (by simp;omega) (fun y hy=>by
   have:y < l.length:=by
    rcases im.1 hy with h | h
    ·exact HS.lt y h
    ·obtain rfl:y=id:=by simpa using h
     exact hid
   omega) (by omega) (by omega) (by omega) qlg fL gp (.mref pm) y (.arr t 0 ids.length none) (.int .i64 ids.length) (.int .i64 p.length) rfl (B6 (aF ae.P f43.results.toList)) l[id].kids.length 0 M _ [] (by omega) (Fr.refl _ _) gc .none (by simp)
  have qlo:(nd l p id).kids=l[id].kids.map fun k=>(((p++[id]).idxOf k.toNat:Nat):Int):=by
   rw[<- Oc hid tN [id]];unfold nd;rw[jk hid]
  have DI:(nd l p id).var=l[id].var/\(nd l p id).leaf=l[id].leaf:=by
   unfold nd;rw[jk hid];exact ⟨rfl,rfl⟩
  have be:=Ej g fq (p:=p) (by omega) hid
  obtain ⟨kz',ko',rfl,Ns⟩:=YY gk qlo be (fun hv=>by
   rw[DI.1] at hv;have:=sD _ (bM hid) hv
   simpa using this)
  have om:=Hl l[id].var l[id].leaf kz' ko' ((nd l p id).kids.map (AV.int .i64));rw[Ns,<- DI.1,<- DI.2] at om;have om:fh (some 3) [.agg [.int .i64 (nd l p id).var,.lst none kz' ko' ((nd l p id).kids.map (AV.int .i64)),.int .i64 (nd l p id).leaf]]=some (.lst (some 3) false .full [(nd l p id).av]):=om
  have fm2:Fr m m2 [pm]:=Fr.trans fM2 f2 fun x hx=>by
   obtain rfl:x=m.length:=by simpa using hx
   exact .inr (aR _)
  have n2:NR 74 m2 y (eu l p) T:=vB hn fun k hk=>fm2.get k (vA hn k hk) (by have:=hT k hk;simp;omega);obtain ⟨y3,m3,T3,ea,n3,f3,gg3⟩:=Xi n2 (by unfold eu;rw[bU];omega) (nd l p id);rw[<- WM HS hid tN] at n3
  have f03:Fr m0 m3 []:=Fr.trans (Fr.trans fM f2 fun x hx=>by
   obtain rfl:x=m.length:=by simpa using hx
   have:=f.len
   exact .inr this) f3 fun x hx=>.inr (by have:=hT x hx;omega)
  have lm2:=f2.len
  have gp3:m3.get pm=some (.mp (.int .i64) (pe 0 (p++[id]))):=by
   rw[f3.get pm (by omega) (fun h=>by have:=hT pm h;omega),f2.get pm (by omega) (by simp;omega)];exact gp
  obtain ⟨m',y',T',e,k⟩:=ihq (p++[id]) m3 y3 T3 (by rw[fS,ga];rfl) f03 gp3 n3 (fun x hx=>by
   rcases gg3 x hx with hh | hh
   ·exact hT x hh
   ·omega) (by
   rw[f3.get t (by omega) (fun h=>by have:=hT t h;omega),f2.get t (by omega) (by simp;omega),<- hM]
   exact (by simp (disch:=(first | assumption | omega | (simp only[aI,aZ,aJ,aM];first | done | omega))) only[gK,cn,bV,cF,dM,ht];first | done | rfl))
  refine ⟨m',y',T',?_,k⟩
  have ld3:ai (some 3) m2 (.ptr m.length 0)=some (.agg [.int .i64 (nd l p id).var,.lst none kz' ko' ((nd l p id).kids.map (AV.int .i64)),.int .i64 (nd l p id).leaf]):=by
   rw[eY,gc2,DI.1,DI.2];rfl
  have e13:Ck (.ptr s 0) (.mref pm) y (.ptr m.length 0) (.arr t 0 ids.length none) (.int .i64 ids.length) (.int .i64 p.length) (IA (kz l[id]) (ko l[id]) l[id].kids) (.int .i64 l[id].kids.length) (.int .i64 0) M (B5 (B6 (aF ae.P f43.results.toList)))=_:=e13;rw[QT,bg,aa,az,an (by omega)]
  repeat ((with_reducible (first | apply bs | apply eX));(focus (first | (simp (disch:=(first | assumption | omega | (simp only[aI,aZ,aJ,aM];first | done | omega))) only[eW,beq_self_eq_true,cO,aa,Sh.size,bq,bC,Nat.reduceAdd,Nat.reduceLeDiff,aR,gY,wH,up,hs,yI,L6,TX,f2v,V7,hb,Ek,AT,iI];first | done | rfl) | rfl));try dsimp only)
  have en:(aA (some (List.set m pm (some (Ent.mp (.int .i64) (pe 0 (p++[id]))))).length) (dG (List.set m pm (some (Ent.mp (.int .i64) (pe 0 (p++[id]))))) 1) .resv).1=m.length:=by rw[Ek];simp
  rw[en,hM,e13,qdw,ld3,aa,om,aa,ea,aa,cG (by omega),aa];rw[aI] at e;exact e
theorem Uq (g:GoodL ar l):V0 l:=fun n hn hv=>by
 obtain ⟨i,hi,rfl⟩:=pM hn;obtain ⟨k,hk,_⟩:=g.dif i hi (by omega);exact List.ne_nil_of_mem hk
theorem ZK (h0:eQ m0 s F arms most l) (g:GoodL ar l) (fq:l.length<=100000) (hm:most≠0) {id:Nat} (hid:id < l.length):∃ (m':af) (y:AV) (T:List Nat),AC ae 43 [.ptr s 0,.int .i64 id] m0=some (.tup [y,.int .i64 0],m')/\NR 74 m' y (eu l (Vi l id [])) T/\Fr m0 m' []:=by
 have e50:=BU h0 hm;have e56:=Jy h0 id;rw[eT (by omega)] at e56;have f1:=Fr.app m0 (some (Ent.mp (.int .i64) [])) [];obtain ⟨m1,x,T,e61,gx,f2,hT1⟩:=JA (h0.app f1) g fq hid;have f3:Fr m0 m1 []:=Fr.trans f1 f2 fun _ h=>by cases h
 obtain ⟨c1,_,_⟩:=qs g id hid [] ri
 have gp:m1.get m0.length=some (.mp (.int .i64) (pe 0 [])):=by
  rw[f2.get _ (by simp) (by simp)];exact (by simp (disch:=(first | assumption | omega | (simp only[aI,aZ,aJ,aM];first | done | omega))) only[gK,cn,bV,cF,dM];first | done | rfl)
 have e65:AC ae 65 [.ptr s 0,.int .i64 id] (aA none m0 (.mp (.int .i64) [])).2=_:=e61;rw[T43,e50,aa,ig,e56,aa,qM,aa,jN,ig,e65,aa];generalize hV:Vi l id []=ids at gx c1 ⊢
 cases gx with
 | none=>
  have:id∈Vi l id []:=by rw[tt g hid,aj (by simp)];simp
  rw[hV] at this;cases this
 | some t ids ht hne=>
  have gF:=hT1 t (by simp);obtain ⟨m',y,T',e,k⟩:=W25 h0 g fq (Uq g) (pm:=m0.length) (t:=t) rfl (by simp at gF;omega) c1 ids [] m1 au [] rfl f3 gp .none (by simp) ht;refine ⟨m',y,T',?_,k⟩;rw[show aK false (.arr t 0 ids.length none)=some (.int .i64 ids.length) from rfl,aa];exact e
end
end Go.Ab
namespace Go.Ab
theorem O1 (ns:List Int):(nP ns).length=ns.length:=List.length_mergeSort _
theorem qoE (ns:List Int) (x:Int):x∈nP ns↔x∈ns:=by
 unfold nP;exact List.mem_mergeSort
theorem LK (zs:List Int):(Lib.compact zs).length<=zs.length:=by
 unfold Lib.compact Lib.compactUpTo;rw[bU];have:=List.length_filter_le (Lib.keeps zs.toArray) (List.range zs.length)
 rwa [List.length_range] at this
theorem Dn {zs:List Int} {j:Nat} (h:j < zs.length):zs.toArray[j]! = zs[j]:=by simp[h]
theorem VS (zs:List Int) (j:Nat):Lib.keeps zs.toArray j=true↔j=0\/zs.toArray[j]!≠zs.toArray[j - 1]!:=by
 unfold Lib.keeps;simp
theorem qjQ {zs:List Int} (x:Int):x∈Lib.compact zs↔x∈zs:=by
 unfold Lib.compact Lib.compactUpTo;rw[iX]
 constructor
 ·rintro ⟨j,hj,rfl⟩
  have lD:j < zs.length:=by
   have:=(rX.1 hj).1;simpa using this
  rw[Dn lD];exact bM lD
 ·intro hx;obtain ⟨i,hi,e⟩:=pM hx
  have key:∀ i,(hi:i < zs.length)->∃ j,j < zs.length/\Lib.keeps zs.toArray j=true/\zs.toArray[j]! = zs[i]:=by
   intro i
   induction i with
   | zero=>intro hi;exact ⟨0,hi,(VS zs 0).2 (.inl rfl),Dn hi⟩
   | succ i ih=>
    intro hi
    by_cases hk:Lib.keeps zs.toArray (i+1)=true
    ·exact ⟨i+1,hi,hk,Dn hi⟩
    ·have fK:i < zs.length:=by omega
     obtain ⟨j,h1,h2,h3⟩:=ih fK;refine ⟨j,h1,h2,h3.trans ?_⟩;rw[VS] at hk;have h4:zs.toArray[i+1]! = zs.toArray[i]!:=qk fun hne=>hk (.inr (by rw[pn];exact hne));rw[Dn hi,Dn fK] at h4;exact h4.symm
  obtain ⟨j,h1,h2,h3⟩:=key i hi;exact ⟨j,rX.2 ⟨by simpa using h1,h2⟩,h3.trans e⟩
def qL (ns:List Int):List Int:=Lib.compact (nP ns)
theorem qph:qL []=[]:=by
 refine nY ?_;have h1:=LK (nP []);have h2:=O1 [];unfold qL;simp only[aM] at h2;omega
theorem Zb (ns:List Int) (x:Int):x∈qL ns↔x∈ns:=by unfold qL;rw[qjQ,qoE]
end Go.Ab
namespace Go.Ab
open Go.Proofs Go.Proofs.Tryz
def vU (B:Nat) (m:af) (x:AV) (ns:List Int):Prop:=(x=au/\ns=[])\/∃ t,x=.arr t 0 ns.length none/\0 < ns.length/\m.get t=some (.obj false (ns.map (AV.int .i64)))/\B<=t
theorem vU.move {B:Nat} {m m':af} {x:AV} {ns:List Int} (h:vU B m x ns) (hm:∀ t,x=.arr t 0 ns.length none->t < m.length->m'.get t=m.get t):vU B m' x ns:=by
 rcases h with h | ⟨t,hx,h1,h2,h3⟩
 ·exact .inl h
 ·exact .inr ⟨t,hx,h1,by rw[hm t hx (bJ h2)];exact h2,h3⟩
theorem qnl {B:Nat} {m:af} {x:AV} {ns:List Int} (h:vU B m x ns) (hl:ns.length<=100000) (hB:B<=m.length) (v:Int):∃ x' m',cg none true 3 none 8 m x (.lst none false .full [.int .i64 v])=some (x',m')/\vU B m' x' (ns++[v])/\m.length<=m'.length/\∀ y,y < m.length->(∀ t,x=.arr t 0 ns.length none->y≠t)->m'.get y=m.get y:=by
 rcases h with ⟨rfl,rfl⟩ | ⟨t,rfl,iU,hg,htB⟩
 ·have ha:cg none true 3 none 8 m au (.lst none false .full [.int .i64 v])=some (.arr m.length 0 1 none,m++[some (.obj false [.int .i64 v])]):=by
   simp only[cg,aM,aJ,bf,bq,or_true,bE,aA]
   rfl
  exact ⟨_,_,ha,.inr ⟨m.length,by simp,by simp,by rw[bV rfl];rfl,hB⟩,by simp,fun y hy _=>cn hy⟩
 ·have gF:=bJ hg;have ho:m.obj? t=some (false,ns.map (AV.int .i64)):=by rw[p9,hg];rfl
  have hY:zf m none (.lst none false .full [.int .i64 v])=some (1,[.int .i64 v]):=rfl
  have hX:xc m none (.arr t 0 ns.length none)=some (ns.length,ns.map (AV.int .i64),m.set t none):=by
   simp only[xc,ho,aa];rw[an ⟨trivial,trivial,iU,trivial,by simp[Sh.size]⟩]
  have ha:cg none true 3 none 8 m (.arr t 0 ns.length none) (.lst none false .full [.int .i64 v])=some (.arr (m.set t none).length 0 (ns.length+1) none,(m.set t none)++[some (.obj false (ns.map (AV.int .i64)++[.int .i64 v]))]):=by
   simp only[cg,uJ,hY,hX,aa];rw[an (show (ns.length+1) * 8<=gL by unfold gL;omega)]
  have jv:(m.set t (none:Option Ent)).length=m.length:=aZ;refine ⟨_,_,ha,.inr ⟨(m.set t none).length,by simp,by simp,by rw[bV rfl,kX];rfl,by rw[jv];exact hB⟩,by simp,fun y hy hne=>?_⟩;rw[cn (by rw[jv];exact hy),cF (hne t rfl)]
def GX (B:Nat) (m:af) (y:AV) (rs:List Int):Prop:=(y=au/\rs=[])\/∃ t zs,y=.arr t 0 rs.length none/\m.get t=some (.obj false ((rs++zs).map (AV.int .i64)))/\B<=t
section
variable {s:Nat} {F:List Nat} {arms:AV} {most:Int} {l:List ND}
theorem Z1 (n:ND) (m:af):AC ae 106 [n.av] m=some (.tup [.int .i64 n.leaf,.bool (decide (n.var < 0))],m++[some (Ent.obj true [.int .i64 n.var,fc n,.int .i64 n.leaf])]):=by
 have e:cZ (some 3) n.av=true:=by unfold ND.av fc;split<;>rfl
 have hb:eR none (some 3) m n.av=some (.ptr m.length 0,m++[some (Ent.obj true [.int .i64 n.var,fc n,.int .i64 n.leaf])]):=by
  unfold eR;rw[an e];rfl
 have l0:ai none (m++[some (Ent.obj true [.int .i64 n.var,fc n,.int .i64 n.leaf])]) (.ptr m.length (0+0))=some (.int .i64 n.var):=by
  rw[eY,bV rfl];rfl
 have l2:ai none (m++[some (Ent.obj true [.int .i64 n.var,fc n,.int .i64 n.leaf])]) (.ptr m.length (0+2))=some (.int .i64 n.leaf):=by
  rw[eY,bV rfl];rfl
 rw[qfb,hb,aa,gg,aa,l2,aa,gg,aa,l0,aa,bg,aa]
theorem qkH {ar:List Int} {m:af} {x:AV} {T:List Nat} (g:GoodL ar l) {id:Nat} (hid:id < l.length) (h:GA m x (Vi l id []) T):∃ t,x=.arr t 0 (Vi l id []).length none/\m.get t=some (.obj false (ds (Vi l id []))):=by
 generalize hV:Vi l id []=ids at h
 cases h with
 | none=>
  have:id∈Vi l id []:=by rw[tt g hid,aj (by simp)];simp
  rw[hV] at this;cases this
 | some t ids ht hne=>exact ⟨t,rfl,ht⟩
def mM (val:ND->Int) (keep:ND->Bool) (l:List ND) (ids:List Nat):List Int:=(ids.filter fun i=>keep (l.getD i ⟨0,[],0⟩)).map fun i=>val (l.getD i ⟨0,[],0⟩)
theorem Y7 (val:ND->Int) (keep:ND->Bool) (l:List ND) (p:List Nat) (i:Nat):mM val keep l (p++[i])=mM val keep l p++(if keep (l.getD i ⟨0,[],0⟩)=true then [val (l.getD i ⟨0,[],0⟩)] else []):=by
 unfold mM;rw[List.filter_append,kX,List.filter_cons,List.filter_nil];congr 1;split<;>rfl
theorem X21 {cf:Nat} {val:ND->Int} {keep:ND->Bool} (c1:((ae.lib cf).isNone && (ae.libm cf).isNone)=true) (c2:ae.inl 104 cf=true) (c3:ae.thaw 104 cf=false) (c4:ae.frzc 104 cf=false) (sv:∀ (n:ND) m,AC ae cf [n.av] m=some (.tup [.int .i64 (val n),.bool (keep n)],m++[some (Ent.obj true [.int .i64 n.var,fc n,.int .i64 n.leaf])]))
  {m0:af} (h0:eQ m0 s F arms most l) {ids:List Nat} (uX:∀ i∈ids,i < l.length) (cq:ids.length<=100000) {t:Nat} (ht:m0.get t=some (.obj false (ds ids))):∀ (q p:List Nat) (m:af) (x:AV),ids=p++q->Fr m0 m []->vU m0.length m x (mM val keep l p) ->
  ∃ m' x',vN (.ptr s 0) (.fn cf []) x (.arr t 0 ids.length none) (.int .i64 ids.length) (.int .i64 p.length) m (vL (aF ae.P f104.results.toList))=vL (aF ae.P f104.results.toList) (.exit 0) (Gy x' m')/\Fr m0 m' []/\vU m0.length m' x' (mM val keep l ids):=by
 intro q
 induction q with
 | nil=>
  intro p m x fS f hx;rw[bP] at fS;subst fS;refine ⟨m,x,?_,f,hx⟩;rw[P7,dp,aa,az,aj (by omega)]
 | cons i q ih=>
  intro p m x fS f hx;have hpl:p.length < ids.length:=by rw[fS];simp
  have iv:ids[p.length]=i:=by simp[fS]
  have hi:i < l.length:=uX i (by rw[fS];simp);have gY:aG none (.arr t 0 ids.length none) (.int .i64 p.length)=some (.ptr t p.length):=fU hpl
  have wH:ai none m (.ptr t p.length)=some (.int .i64 (i:Nat)):=by
   rw[eY,f.get t (bJ ht) (by simp),ht,j7,aa,uP];exact HD (by rw[fS];simp)
  have gI:=h0.app f;obtain ⟨p0,na,TT,st,_⟩:=gI;have Ir:ai none m (.ptr s (0+1))=some na:=by rw[eY,st.hs];rfl
  have yI:=Ei st.hn hi;have ldv:ai (some 3) m (.vptr [.int .i64 l[i].var,fc l[i],.int .i64 l[i].leaf])=some l[i].av:=rfl;have hc:=sv l[i] m;have js:l.getD i ⟨0,[],0⟩=l[i]:=jk hi;have f1:Fr m0 (m++[some (Ent.obj true [.int .i64 l[i].var,fc l[i],.int .i64 l[i].leaf])]) []:=f.snoc _;have hx1:vU m0.length (m++[some (Ent.obj true [.int .i64 l[i].var,fc l[i],.int .i64 l[i].leaf])]) x (mM val keep l p):=hx.move fun t _ ht=>cn ht;have Vu:(p++[i]).length=p.length+1:=by simp
  have gF:(mM val keep l p).length<=100000:=by
   unfold mM;rw[bU];have:=List.length_filter_le (fun i=>keep (l.getD i ⟨0,[],0⟩)) p;omega
  have VB:vN (.ptr s 0) (.fn cf []) x (.arr t 0 ids.length none) (.int .i64 ids.length) (.int .i64 p.length) m (vL (aF ae.P f104.results.toList))=aw (.bool (keep l[i])) ((cg none true 3 none 8 (m++[some (Ent.obj true [.int .i64 l[i].var,fc l[i],.int .i64 l[i].leaf])]) x (.lst none false .full [.int .i64 (val l[i])])).bind fun nL=>vN (.ptr s 0) (.fn cf []) nL.1 (.arr t 0 ids.length none) (.int .i64 ids.length) (.int .i64 (p.length+1:Nat)) nL.2 (vL (aF ae.P f104.results.toList))) (vN (.ptr s 0) (.fn cf []) x (.arr t 0 ids.length none) (.int .i64 ids.length) (.int .i64 (p.length+1:Nat)) (m++[some (Ent.obj true [.int .i64 l[i].var,fc l[i],.int .i64 l[i].leaf])]) (vL (aF ae.P f104.results.toList))):=by
   rw[P7,dp,aa,az,an hpl,gY,aa,wH,aa,oY,aa,gg,aa,Ir,aa,yI,aa,ldv,aa,show lp (.fn cf [])=some (cf,[]) from rfl,aa,tw c1 c2 c3 c4,bP,hc,aa,rj,aa,rl,aa,cG (by omega),rh,aa]
   rfl
  cases hk:keep l[i] with
  | true=>
   obtain ⟨x2,m2,ea,hx2,hlen,pD⟩:=qnl hx1 gF (by have:=f1.len;omega) (val l[i])
   have f2:Fr m0 m2 []:=⟨by have:=f1.len;omega,fun y hy _=>by
    have hl:=f1.len
    rw[pD y (by omega) (fun t ht e=>by
     rcases hx1 with ⟨h1,_⟩ | ⟨t',h1,_,_,h4⟩
     ·rw[h1] at ht;cases ht
     ·rw[h1] at ht;cases ht;omega)]
    exact f1.get y hy (by simp)⟩
   have MG:mM val keep l (p++[i])=mM val keep l p++[val l[i]]:=by
    rw[Y7,js,hk,an rfl]
   obtain ⟨m',x',e,k1,k2⟩:=ih (p++[i]) m2 x2 (by rw[fS,ga];rfl) f2 (by rw[MG];exact hx2);refine ⟨m',x',?_,k1,k2⟩;rw[Vu] at e;rw[VB,hk,mJ,ea,aa];exact e
  | false=>
   have MG:mM val keep l (p++[i])=mM val keep l p:=by
    rw[Y7,js,hk,aj (by simp),bP]
   obtain ⟨m',x',e,k1,k2⟩:=ih (p++[i]) _ x (by rw[fS,ga];rfl) f1 (by rw[MG];exact hx1);refine ⟨m',x',?_,k1,k2⟩;rw[Vu] at e;rw[VB,hk,ig];exact e
theorem Z0 {cf:Nat} {val:ND->Int} {keep:ND->Bool} (c1:((ae.lib cf).isNone && (ae.libm cf).isNone)=true) (c2:ae.inl 104 cf=true) (c3:ae.thaw 104 cf=false) (c4:ae.frzc 104 cf=false) (sv:∀ (n:ND) m,AC ae cf [n.av] m=some (.tup [.int .i64 (val n),.bool (keep n)],m++[some (Ent.obj true [.int .i64 n.var,fc n,.int .i64 n.leaf])]))
  {m0:af} {ar:List Int} (h0:eQ m0 s F arms most l) (hm:most≠0) (g:GoodL ar l) (fq:l.length<=100000) {id:Nat} (hid:id < l.length) :
  ∃ m' y,AC ae 104 [.ptr s 0,.int .i64 id,.fn cf []] m0=some (.tup [y,.int .i64 0],m')/\Fr m0 m' []/\GX m0.length m' y (qL (mM val keep l (Vi l id []))):=by
 have e50:=BU h0 hm;have e56:=Jy h0 id;rw[eT (by omega)] at e56;obtain ⟨m1,x,T,e61,DD,f1,_⟩:=JA h0 g fq hid;obtain ⟨cc1,cc2,_⟩:=qs g id hid [] ri;obtain ⟨t0,rfl,Nu⟩:=qkH g hid DD;have fT:=sU _ _ cc1.nd cc1.lt;have st1:=h0.app f1;obtain ⟨m2,x2,e,f2,hx2⟩:=X21 c1 c2 c3 c4 sv st1 (ids:=Vi l id []) cc1.lt (by omega) Nu (Vi l id []) [] m1 au rfl (Fr.refl _ _) (.inl ⟨rfl,rfl⟩);have qlk:aK false (.arr t0 0 (Vi l id []).length none)=some (.int .i64 (Vi l id []).length):=rfl;have f12:Fr m0 m2 []:=Fr.trans f1 f2 fun _ hh=>by cases hh
 have mW:=f1.len;have ja:=f2.len
 have e0:AC ae 104 [.ptr s 0,.int .i64 id,.fn cf []] m0=vL (aF ae.P f104.results.toList) (.exit 0) (Gy x2 m2):=by
  have e61:AC ae 65 [.ptr s 0,.int .i64 id] m0=some (.arr t0 0 (Vi l id []).length none,m1):=e61;rw[qfa,e50,aa,ig,e56,aa,qM,aa,jN,ig,e61,aa,qlk,aa];exact e
 rw[e0,qaa];generalize hns:mM val keep l (Vi l id [])=ns at *
 have ou:ns.length<=100000:=by
  rw[<- hns];unfold mM;rw[bU];have:=List.length_filter_le (fun i=>keep (l.getD i ⟨0,[],0⟩)) (Vi l id []);omega
 rcases hx2 with ⟨rfl,rfl⟩ | ⟨t,rfl,iU,hg,htB⟩
 ·exact ⟨m2,_,rfl,f12,.inl ⟨rfl,qph⟩⟩
 ·have gF:=bJ hg;have ho:m2.obj? t=some (false,ns.map (AV.int .i64)):=by rw[p9,hg];rfl
  have es:zj [.arr t 0 ns.length none] m2=some (.tup [],m2.set t (some (.obj false ((nP ns).map (AV.int .i64))))):=by
   simp only[zj,ho,aa];rw[an ⟨trivial,trivial,iU,by simp,by omega⟩,NH];rfl
  have pD:af.get (m2.set t (some (.obj false ((nP ns).map (AV.int .i64))))) t=some (.obj false ((nP ns).map (AV.int .i64))):=dM rfl gF;have ho2:af.obj? (m2.set t (some (.obj false ((nP ns).map (AV.int .i64))))) t=some (false,(nP ns).map (AV.int .i64)):=by rw[p9,pD];rfl
  have mG:=O1 ns
  have ec:xZ [.arr t 0 ns.length none] (m2.set t (some (.obj false ((nP ns).map (AV.int .i64)))))=some (.arr t 0 (qL ns).length none,m2.set t (some (.obj false ((qL ns++List.replicate ((nP ns).length - (qL ns).length) 0).map (AV.int .i64))))):=by
   simp only[xZ,ho2,aa];rw[an ⟨trivial,trivial,iU,by rw[bU,mG],by omega⟩,NH,aQ,Ae];rfl
  refine ⟨_,_,by rw[es,aa,ec,aa],⟨by rw[aZ];exact f12.len,fun y hy _=>?_⟩,.inr ⟨t,List.replicate ((nP ns).length - (qL ns).length) 0,rfl,dM rfl gF,by omega⟩⟩;rw[cF (by omega)];exact f12.get y hy (by simp)
theorem ZZ {m0:af} {ar:List Int} (h0:eQ m0 s F arms most l) (hm:most≠0) (g:GoodL ar l) (fq:l.length<=100000) {id:Nat} (hid:id < l.length) :
  ∃ m' y,AC ae 41 [.ptr s 0,.int .i64 id] m0=some (.tup [y,.int .i64 0],m')/\Fr m0 m' []/\GX m0.length m' y (qL (mM (fun n=>n.leaf) (fun n=>decide (n.var < 0)) l (Vi l id []))):=by
 obtain ⟨m',y,e,h1,h2⟩:=Z0 (cf:=106) rfl rfl rfl rfl Z1 h0 hm g fq hid;exact ⟨m',y,by rw[T41,e,aa,rj,aa,rl,aa],h1,h2⟩
end
end Go.Ab
namespace Go.Ab
noncomputable section
open Go.Proofs.Tryz
def Kx (x5:AV) (m:af):St:=⟨(aP (aH (x5::br (aH [])))),m⟩
def FO (x1 x5 jo bW bY:AV) (m:af) (K:KT):OM:=b8 127 (ck (c2 (c2 (c2 (aC f127))))) 4 (aH (x1::aO (aH (x5::aY (aP (aO (aH (jo::bW::bY::bI (aY (aP (aO (aH [])))))))))))) m K
def Ky (x1 x5 x6 x8 jo bW bY:AV) (m:af):St:=⟨(aH (x1::aO (aH (x5::x6::aH (x8::aY (aP (jo::bW::bY::bI (aY (aP (aO (aH []))))))))))),m⟩
def FP (x1 x5 x6 x7 x8 jo bW bY E0 td pf:AV) (m:af) (K:KT):OM:=b8 127 (ck (lS (lS (pU (c2 (aC f127)))))) 8 (aH (x1::aO (aH (x5::x6::x7::x8::aY (aP (jo::bW::bY::aP (E0::td::pf::bI (aY [])))))))) m K
abbrev qa5 (K:KT):KT:=bF 127 (bo (aC f127)) K
abbrev qa6 (K:KT):KT:=bu 0 (qa5 K)
abbrev JO (K:KT):KT:=(qa6 K)
abbrev qa8 (K:KT):KT:=bF 127 (lT (nr (c2 (c2 (aC f127))))) (oH 127 (ck (c2 (c2 (c2 (aC f127))))) 4 K)
abbrev qa9 (K:KT):KT:=bu 1 (qa8 K)
abbrev qba (K:KT):KT:=bF 127 (lT (Av (nr (c2 (c2 (aC f127)))))) (qa9 K)
abbrev qbb (K:KT):KT:=bu 2 (qba K)
abbrev JP (K:KT):KT:=(qbb K)
theorem qfl (a0 a1:AV) (m:af):AC ae 127 [a0,a1] m=(aD (AP ae) none m 164 [a0]).bind fun r1=>(aD (AP ae) none r1.2 164 [a1]).bind fun r2=>(aK false r1.1).bind fun v3=>(aK false r2.1).bind fun v4=>(ag .other .add v3 v4).bind fun v5=>(iV none 161 none (.int .u32 0) 4 r2.2 v5 v5).bind fun r6=>(aK false r1.1).bind fun v7=>FO r2.1 r6.1 r1.1 v7 (.int .i64 0) r6.2 (JO (aF ae.P f127.results.toList)):=
(bh ae 127 [a0,a1] m (fn:=f127) (c:=aC f127) qhD rfl).trans (by kernel_rfl)
theorem Qh (x1 x5 jo bW bY:AV) (m:af) (K:KT):FO x1 x5 jo bW bY m K=(ag .other .lss bY bW).bind fun v1=>aw v1 ((aG none jo bY).bind fun v2=>(ai none m v2).bind fun v3=>(aK false x1).bind fun v4=>FP x1 x5 bY v3 (.int .u64 0) jo bW bY x1 v4 (.int .i64 0) m (JP K)) (K (.exit 0) (Kx x5 m)):=
(b7 (bX _) _ _ _).trans (by kernel_rfl)
theorem Qi (x1 x5 x6 x7 x8 jo bW bY E0 td pf:AV) (m:af) (K:KT):FP x1 x5 x6 x7 x8 jo bW bY E0 td pf m K=(ag .other .lss pf td).bind fun v1=>aw v1 ((aG none E0 pf).bind fun v2=>(ai none m v2).bind fun v3=>(ag .other .add x6 pf).bind fun v4=>(aG none x5 v4).bind fun v5=>(ai none m v5).bind fun v6=>(bm .u64 v6).bind fun v7=>(bm .u64 x7).bind fun v8=>(bm .u64 v3).bind fun v9=>(ag .other .mul v8 v9).bind fun v10=>(ag .other .add v7 v10).bind fun v11=>(ag .other .add x8 v11).bind fun v12=>(ag .other .add x6 pf).bind fun bp=>(bm .u32 v12).bind fun bj=>(aG none x5 bp).bind fun bn=>(aN none m bn bj).bind fun m16=>(ag .other .shr v12 (.int .u64 32)).bind fun bB=>(ag .other .add pf (.int .i64 1)).bind fun fk=>FP x1 x5 x6 x7 bB jo bW bY E0 td fk m16 K) (K (.exit 2) (Ky x1 x5 x6 x8 jo bW bY m)):=
(b7 (bX _) _ _ _).trans (by kernel_rfl)
theorem qa7 (x5:AV) (m:af):JO (aF ae.P f127.results.toList) (.exit 0) (Kx x5 m)=(aD (AP ae) none m 164 [x5]).bind fun r1=>some (r1.1,r1.2):=by kernel_rfl
theorem qbc (x1 x5 x6 x8 jo bW bY:AV) (m:af) (K:KT):JP K (.exit 2) (Ky x1 x5 x6 x8 jo bW bY m)=(aK false x1).bind fun v1=>(ag .other .add x6 v1).bind fun v2=>(bm .u32 x8).bind fun v3=>(aG none x5 v2).bind fun v4=>(aN none m v4 v3).bind fun m5=>(ag .other .add bY (.int .i64 1)).bind fun v6=>FO x1 x5 jo bW v6 m5 K:=by kernel_rfl
def GF (x5 x6:AV) (m:af):St:=⟨(aP (aH (x5::x6::bI (bD (aP (aH [])))))),m⟩
def zM (x1 x5 x6 cr iG vJ:AV) (m:af) (K:KT):OM:=b8 130 (ck (bo (c2 (aC f130)))) 7 (aH (x1::aO (aH (x5::x6::bD (aH (cr::iG::vJ::bI (aH []))))))) m K
abbrev qbh (K:KT):KT:=bF 130 (bo (c2 (c2 (aC f130)))) K
abbrev qbi (K:KT):KT:=bu 0 (qbh K)
abbrev zI (K:KT):KT:=(qbi K)
theorem qfp (a0 a1:AV) (m:af):AC ae 130 [a0,a1] m=(aD (AP ae) none m 164 [a0]).bind fun r1=>(aD (AP ae) none r1.2 164 [a1]).bind fun r2=>(aK false r1.1).bind fun v3=>(aK false r2.1).bind fun v4=>(ag .other .lss v3 v4).bind fun v5=>aw v5 ((aK false r2.1).bind fun v6=>(ag .other .add v6 (.int .i64 1)).bind fun v7=>(iV none 161 none (.int .u32 0) 4 r2.2 (.int .i64 0) v7).bind fun r8=>(aK false r2.1).bind fun v9=>zM r1.1 r8.1 (.int .u64 0) r2.1 v9 (.int .i64 0) r8.2 (zI (aF ae.P f130.results.toList))) ((aK false r1.1).bind fun v10=>(ag .other .add v10 (.int .i64 1)).bind fun v11=>(iV none 161 none (.int .u32 0) 4 r2.2 (.int .i64 0) v11).bind fun kT=>(aK false r1.1).bind fun bp=>zM r2.1 kT.1 (.int .u64 0) r1.1 bp (.int .i64 0) kT.2 (zI (aF ae.P f130.results.toList))):=
(bh ae 130 [a0,a1] m (fn:=f130) (c:=aC f130) qhG rfl).trans (by kernel_rfl)
theorem Ql (x1 x5 x6 cr iG vJ:AV) (m:af) (K:KT):zM x1 x5 x6 cr iG vJ m K=(ag .other .lss vJ iG).bind fun v1=>aw v1 ((aG none cr vJ).bind fun v2=>(ai none m v2).bind fun v3=>(bm .u64 v3).bind fun v4=>(ag .other .add x6 v4).bind fun v5=>(aK false x1).bind fun v6=>(ag .other .lss vJ v6).bind fun v7=>aw v7 ((aG none x1 vJ).bind fun v8=>(ai none m v8).bind fun v9=>(bm .u64 v9).bind fun v10=>(ag .other .add v5 v10).bind fun v11=>(bm .u32 v11).bind fun v12=>(fh none [v12]).bind fun bp=>(cg none false 161 none 4 m x5 bp).bind fun jG=>(ag .other .shr v11 (.int .u64 32)).bind fun bn=>(ag .other .add vJ (.int .i64 1)).bind fun bO=>zM x1 jG.1 bn cr iG bO jG.2 K) ((bm .u32 v5).bind fun bB=>(fh none [bB]).bind fun fk=>(cg none false 161 none 4 m x5 fk).bind fun oZ=>(ag .other .shr v5 (.int .u64 32)).bind fun v20=>(ag .other .add vJ (.int .i64 1)).bind fun v21=>zM x1 oZ.1 v20 cr iG v21 oZ.2 K)) (K (.exit 0) (GF x5 x6 m)):=
(b7 (bX _) _ _ _).trans (by kernel_rfl)
theorem qbj (x5 x6:AV) (m:af):zI (aF ae.P f130.results.toList) (.exit 0) (GF x5 x6 m)=(bm .u32 x6).bind fun v1=>(fh none [v1]).bind fun v2=>(cg none false 161 none 4 m x5 v2).bind fun r3=>(aD (AP ae) none r3.2 164 [r3.1]).bind fun r4=>some (r4.1,r4.2):=by kernel_rfl
def Kz (m:af):St:=⟨(bI (bD (aH []))),m⟩
def GP (x4:AV) (m:af):St:=⟨(aP (x4::bI (aY (aP [])))),m⟩
def FR (x0 x1 x5:AV) (m:af) (K:KT):OM:=b8 131 (ck (c2 (c2 (c2 (aC f131))))) 7 (x0::x1::aO (aH (x5::bI (aY (aO (aH [])))))) m K
abbrev qbk (K:KT):KT:=bF 131 (bo (aC f131)) K
abbrev qbl (K:KT):KT:=bu 1 (qbk K)
abbrev Fh (K:KT):KT:=(qbl K)
theorem qfr (a0 a1:AV) (m:af):AC ae 131 [a0,a1] m=(aD (AP ae) none m 164 [a0]).bind fun r1=>(aD (AP ae) none r1.2 164 [a1]).bind fun r2=>(aK false r1.1).bind fun v3=>(aK false r2.1).bind fun v4=>(ag .other .lss v3 v4).bind fun v5=>aw v5 (some ((.int .i64 (-1)),r2.2)) ((aK false r1.1).bind fun v6=>(aK false r2.1).bind fun v7=>(ag .other .gtr v6 v7).bind fun v8=>aw v8 (some ((.int .i64 1),r2.2)) ((aK false r1.1).bind fun v9=>(ag .other .sub v9 (.int .i64 1)).bind fun v10=>FR r1.1 r2.1 v10 r2.2 (Fh (aF ae.P f131.results.toList)))):=
(bh ae 131 [a0,a1] m (fn:=f131) (c:=aC f131) qhH rfl).trans (by kernel_rfl)
theorem Qm (x0 x1 x5:AV) (m:af) (K:KT):FR x0 x1 x5 m K=(ag .other .geq x5 (.int .i64 0)).bind fun v1=>aw v1 ((aG none x0 x5).bind fun v2=>(ai none m v2).bind fun v3=>(aG none x1 x5).bind fun v4=>(ai none m v4).bind fun v5=>(ag .other .lss v3 v5).bind fun v6=>aw v6 (K .ret (GP (.int .i64 (-1)) m)) ((aG none x0 x5).bind fun v7=>(ai none m v7).bind fun v8=>(aG none x1 x5).bind fun v9=>(ai none m v9).bind fun v10=>(ag .other .gtr v8 v10).bind fun v11=>aw v11 (K .ret (GP (.int .i64 1) m)) ((ag .other .sub x5 (.int .i64 1)).bind fun v12=>FR x0 x1 v12 m K))) (K (.exit 1) (Kz m)):=
(b7 (bX _) _ _ _).trans (by kernel_rfl)
theorem qbn (m:af):Fh (aF ae.P f131.results.toList) (.exit 1) (Kz  m)=some ((.int .i64 0),m):=by kernel_rfl
theorem qbm (x4:AV) (m:af):Fh (aF ae.P f131.results.toList) .ret (GP x4 m)=some (x4,m):=by kernel_rfl
def KA (x6:AV) (m:af):St:=⟨(aP (aO (x6::bI (bD (aP []))))),m⟩
def xG (x1 x6 x7 bW bY cr:AV) (m:af) (K:KT):OM:=b8 132 (ck (bo (c2 (aC f132)))) 7 (aH (x1::aP (x6::x7::aY (aP (aO (bW::bY::cr::bI (aO []))))))) m K
abbrev qbo (K:KT):KT:=bF 132 (bo (c2 (c2 (aC f132)))) K
abbrev qbp (K:KT):KT:=bu 0 (qbo K)
abbrev JQ (K:KT):KT:=(qbp K)
theorem RI (a0 a1:AV) (m:af):AC ae 132 [a0,a1] m=(aD (AP ae) none m 131 [a0,a1]).bind fun r1=>(ag .other .lss r1.1 (.int .i64 0)).bind fun v2=>aw v2 (some ((.tup [au,(.int .i64 1)]),r1.2)) ((aD (AP ae) none r1.2 164 [a0]).bind fun r3=>(aD (AP ae) none r3.2 164 [a1]).bind fun r4=>(aK false r3.1).bind fun v5=>(iV none 161 none (.int .u32 0) 4 r4.2 v5 v5).bind fun r6=>(aK false r3.1).bind fun v7=>xG r4.1 r6.1 (.int .u64 0) r3.1 v7 (.int .i64 0) r6.2 (JQ (aF ae.P f132.results.toList))):=
(bh ae 132 [a0,a1] m (fn:=f132) (c:=aC f132) qhI rfl).trans (by kernel_rfl)
theorem Qn (x1 x6 x7 bW bY cr:AV) (m:af) (K:KT):xG x1 x6 x7 bW bY cr m K=(ag .other .lss cr bY).bind fun v1=>aw v1 ((aG none bW cr).bind fun v2=>(ai none m v2).bind fun v3=>(aK false x1).bind fun v4=>(ag .other .lss cr v4).bind fun v5=>aw v5 ((aG none x1 cr).bind fun v6=>(ai none m v6).bind fun v7=>(bm .u64 v7).bind fun v8=>(ag .other .add x7 v8).bind fun v9=>(bm .u64 v3).bind fun v10=>(ag .other .lss v10 v9).bind fun v11=>aw v11 ((bm .u64 v3).bind fun v12=>(ag .other .shl (.int .u64 1) (.int .u64 32)).bind fun bp=>(ag .other .add v12 bp).bind fun bj=>(ag .other .sub bj v9).bind fun bn=>(bm .u32 bn).bind fun bO=>(aG none x6 cr).bind fun bB=>(aN none m bB bO).bind fun m18=>(ag .other .add cr (.int .i64 1)).bind fun eU=>xG x1 x6 (.int .u64 1) bW bY eU m18 K) ((bm .u64 v3).bind fun v20=>(ag .other .shl (.int .u64 0) (.int .u64 32)).bind fun v21=>(ag .other .add v20 v21).bind fun v22=>(ag .other .sub v22 v9).bind fun v23=>(bm .u32 v23).bind fun v24=>(aG none x6 cr).bind fun v25=>(aN none m v25 v24).bind fun m26=>(ag .other .add cr (.int .i64 1)).bind fun jK=>xG x1 x6 (.int .u64 0) bW bY jK m26 K)) ((bm .u64 v3).bind fun v28=>(ag .other .lss v28 x7).bind fun j9=>aw j9 ((bm .u64 v3).bind fun v30=>(ag .other .shl (.int .u64 1) (.int .u64 32)).bind fun v31=>(ag .other .add v30 v31).bind fun mN=>(ag .other .sub mN x7).bind fun oI=>(bm .u32 oI).bind fun qN=>(aG none x6 cr).bind fun ml=>(aN none m ml qN).bind fun m36=>(ag .other .add cr (.int .i64 1)).bind fun v37=>xG x1 x6 (.int .u64 1) bW bY v37 m36 K) ((bm .u64 v3).bind fun qO=>(ag .other .shl (.int .u64 0) (.int .u64 32)).bind fun rH=>(ag .other .add qO rH).bind fun v40=>(ag .other .sub v40 x7).bind fun zq=>(bm .u32 zq).bind fun EG=>(aG none x6 cr).bind fun zu=>(aN none m zu EG).bind fun m44=>(ag .other .add cr (.int .i64 1)).bind fun EI=>xG x1 x6 (.int .u64 0) bW bY EI m44 K))) (K (.exit 0) (KA x6 m)):=
(b7 (bX _) _ _ _).trans (by kernel_rfl)
theorem qbq (x6:AV) (m:af):JQ (aF ae.P f132.results.toList) (.exit 0) (KA x6 m)=(aD (AP ae) none m 164 [x6]).bind fun r1=>some ((.tup [r1.1,(.int .i64 0)]),r1.2):=by kernel_rfl
theorem qfj (a0:AV) (m:af):AC ae 123 [a0] m=(bm .u32 a0).bind fun v1=>(ag .other .shr a0 (.int .u64 32)).bind fun v2=>(bm .u32 v2).bind fun v3=>(fh none [v1,v3]).bind fun v4=>(aD (AP ae) none m 164 [v4]).bind fun r5=>(aD (AP ae) none r5.2 163 [r5.1]).bind fun r6=>some (r6.1,r6.2):=
(bh ae 123 [a0] m (fn:=f123) (c:=aC f123) qhz rfl).trans (by kernel_rfl)
theorem qfO (a0:AV) (m:af):AC ae 181 [a0] m=(aK false a0).bind fun v1=>(ag .other .eql v1 (.int .i64 0)).bind fun v2=>aw v2 (some ((.bool true),m)) ((aK false a0).bind fun v3=>(ag .other .sub v3 (.int .i64 1)).bind fun v4=>(aG none a0 v4).bind fun v5=>(ai none m v5).bind fun v6=>(ag .other .neq v6 (.int .u32 0)).bind fun v7=>some (v7,m)):=
(bh ae 181 [a0] m (fn:=f181) (c:=aC f181) qig rfl).trans (by kernel_rfl)
theorem qfP (a0:AV) (m:af):AC ae 182 [a0] m=(aD (AP ae) none m 164 [a0]).bind fun r1=>(aK false r1.1).bind fun v2=>(ag .other .eql v2 (.int .i64 0)).bind fun v3=>aw v3 (some ((.tup [(.int .u64 0),(.bool true)]),r1.2)) ((ag .other .eql v2 (.int .i64 1)).bind fun v4=>aw v4 ((aG none r1.1 (.int .i64 0)).bind fun v5=>(ai none r1.2 v5).bind fun v6=>(bm .u64 v6).bind fun v7=>some ((.tup [v7,(.bool true)]),r1.2)) ((ag .other .eql v2 (.int .i64 2)).bind fun v8=>aw v8 ((aG none r1.1 (.int .i64 0)).bind fun v9=>(ai none r1.2 v9).bind fun v10=>(bm .u64 v10).bind fun v11=>(aG none r1.1 (.int .i64 1)).bind fun v12=>(ai none r1.2 v12).bind fun bp=>(bm .u64 bp).bind fun bj=>(ag .other .shl bj (.int .u64 32)).bind fun bn=>(ag .other .or v11 bn).bind fun bO=>some ((.tup [bO,(.bool true)]),r1.2)) (some ((.tup [(.int .u64 0),(.bool false)]),r1.2)))):=
(bh ae 182 [a0] m (fn:=f182) (c:=aC f182) qih rfl).trans (by kernel_rfl)
def KL (x0:AV) (m:af):St:=⟨(x0::bD (aY (aH []))),m⟩
def Gc (x0 x1:AV) (m:af) (K:KT):OM:=b8 183 (nq (c2 (aC f183))) 2 (x0::x1::bD (aY [])) m K
abbrev qcF (K:KT):KT:=bF 183 (c2 (c2 (c2 (aC f183)))) K
abbrev qcG (K:KT):KT:=bu 0 (qcF K)
abbrev J1 (K:KT):KT:=(qcG K)
theorem qfQ (a0 a1:AV) (m:af):AC ae 183 [a0,a1] m=(aD (AP ae) none m 164 [a0]).bind fun r1=>(aD (AP ae) none r1.2 164 [a1]).bind fun r2=>Gc r1.1 r2.1 r2.2 (J1 (aF ae.P f183.results.toList)):=
(bh ae 183 [a0,a1] m (fn:=f183) (c:=aC f183) qii rfl).trans (by kernel_rfl)
theorem qeU (x0 x1:AV) (m:af) (K:KT):Gc x0 x1 m K=(aK false x1).bind fun v1=>(ag .other .gtr v1 (.int .i64 0)).bind fun v2=>aw v2 ((aD (AP ae) none m 187 [x0,x1]).bind fun r3=>(ba r3.1 0).bind fun v4=>(ba r3.1 1).bind fun v5=>(ba r3.1 2).bind fun v6=>Gc x1 v5 r3.2 K) (K (.exit 0) (KL x0 m)):=
(b7 (bX _) _ _ _).trans (by kernel_rfl)
theorem qcH (x0:AV) (m:af):J1 (aF ae.P f183.results.toList) (.exit 0) (KL x0 m)=(aD (AP ae) none m 163 [x0]).bind fun r1=>some (r1.1,r1.2):=by kernel_rfl
def GH (x0 x3:AV) (m:af):St:=⟨(x0::aO (x3::bD (aH []))),m⟩
def FZ (x0 x3:AV) (m:af) (K:KT):OM:=b8 164 (nq (c2 (aC f164))) 2 (x0::aO (x3::bD (aH []))) m K
abbrev qbV (K:KT):KT:=bF 164 (c2 (c2 (c2 (aC f164)))) K
abbrev qbW (K:KT):KT:=bu 0 (qbV K)
abbrev JU (K:KT):KT:=(qbW K)
theorem qfH (a0:AV) (m:af):AC ae 164 [a0] m=(aK false a0).bind fun v1=>FZ a0 v1 m (JU (aF ae.P f164.results.toList)):=
(bh ae 164 [a0] m (fn:=f164) (c:=aC f164) qh4 rfl).trans (by kernel_rfl)
theorem Qw (x0 x3:AV) (m:af) (K:KT):FZ x0 x3 m K=(ag .other .gtr x3 (.int .i64 0)).bind fun v1=>aw v1 ((ag .other .sub x3 (.int .i64 1)).bind fun v2=>(aG none x0 v2).bind fun v3=>(ai none m v3).bind fun v4=>(ag .other .eql v4 (.int .u32 0)).bind fun v5=>aw v5 ((ag .other .sub x3 (.int .i64 1)).bind fun v6=>FZ x0 v6 m K) (K (.exit 0) (GH x0 x3 m))) (K (.exit 0) (GH x0 x3 m)):=
(b7 (bX _) _ _ _).trans (by kernel_rfl)
theorem qbX (x0 x3:AV) (m:af):JU (aF ae.P f164.results.toList) (.exit 0) (GH x0 x3 m)=(kU none x0 none (some x3) none).bind fun v1=>some (v1,m):=by kernel_rfl
theorem Lf (a0:AV) (m:af):AC ae 163 [a0] m=(ag .sl .eql a0 au).bind fun v1=>aw v1 (some (au,m)) ((fh none []).bind fun v2=>(cg none false 161 none 4 m v2 a0).bind fun r3=>some (r3.1,r3.2)):=
(bh ae 163 [a0] m (fn:=f163) (c:=aC f163) qh3 rfl).trans (by kernel_rfl)
def KM (x9 aE aL aV:AV) (m:af):St:=⟨(aY (aH (x9::aE::aH (aL::aV::br (br (br (br (bI (aY (aP (aH []))))))))))),m⟩
def Ch (x9 aE aW aL aV aX:AV) (m:af) (K:KT):OM:=b8 187 (ck (bo (c2 (c2 (c2 (aC f187)))))) 14 (aY (aH (x9::aE::aW::aL::aV::aX::br (br (br (br (bI (aY (aP []))))))))) m K
def xO (x9 aE aW aL aV aX bS:AV) (m:af):St:=⟨(aY (aH (x9::aE::aW::aL::aV::aX::aH (bS::br (br (br (br (bI (aY (aO [])))))))))),m⟩
def zT (x9 aE aW aL aV aX bS eZ:AV) (m:af) (K:KT):OM:=b8 187 (nq (wj (ck (bo (c2 (c2 (c2 (aC f187)))))))) 18 (aY (aH (x9::aE::aW::aL::aV::aX::aH (bS::eZ::br (br (br (br (bI (aY (aH [])))))))))) m K
def KN (x9 aE aW aL aV aX bS dz gM:AV) (m:af):St:=⟨(aY (aH (x9::aE::aW::aL::aV::aX::aH (bS::aH (dz::gM::br (br (br (br (bI (aP (aO (aH [])))))))))))),m⟩
def Ci (x9 aE aW aL aV aX bS dz gM BO rJ:AV) (m:af) (K:KT):OM:=b8 187 (ck (bo (ck (nr (bo (c2 (c2 (aC f187)))))))) 24 (aY (aH (x9::aE::aW::aL::aV::aX::aH (bS::aH (dz::gM::br (br (aY (aO (BO::rJ::br (br (bD (aY (aO (aH [])))))))))))))) m K
def KO (x9 aE aW aL aV aX bS gM:AV) (m:af):St:=⟨(aY (aH (x9::aE::aW::aL::aV::aX::aH (bS::aO (gM::br (br (br (br (bI (aP (aO (aH [])))))))))))),m⟩
def Gd (x9 aE aW aL aV aX bS gM EZ xq:AV) (m:af) (K:KT):OM:=b8 187 (ck (LM (Db (bo (wj (ck (bo (c2 (c2 (c2 (aC f187))))))))))) 41 (aY (aH (x9::aE::aW::aL::aV::aX::aH (bS::aO (gM::br (br (br (bD (aP (aO (aH (EZ::xq::br (aY (aP (aO []))))))))))))))) m K
def KP (aV iG:AV) (m:af):St:=⟨(aY (aP (aH (aV::aY (aO (aH (iG::br (br (br (br (bI (aH [])))))))))))),m⟩
def Cj (x9 aE aV iG BP tc:AV) (m:af) (K:KT):OM:=b8 187 (ck (bo (bo (c2 (aC f187))))) 51 (aY (aH (x9::aE::aO (aV::aY (aO (aH (iG::br (br (br (bI (bD (aY (aP (aO (aH (BP::tc::bI [])))))))))))))))) m K
abbrev qcL (K:KT):KT:=bF 187 (bo (bo (aC f187))) K
abbrev qcM (K:KT):KT:=bu 1 (qcL K)
abbrev J3 (K:KT):KT:=(qcM K)
abbrev qcO (K:KT):KT:=bF 187 (lS (pU (bo (c2 (aC f187))))) (oH 187 (ck (bo (c2 (c2 (c2 (aC f187)))))) 14 K)
abbrev qcP (K:KT):KT:=bu 2 (qcO K)
abbrev qcQ (K:KT):KT:=bF 187 (lT (Ht (pU (bo (c2 (aC f187)))))) (qcP K)
abbrev qcR (K:KT):KT:=bu 3 (qcQ K)
abbrev J4 (K:KT):KT:=(qcR K)
abbrev qc4 (K:KT):KT:=bF 187 (bo (bo (c2 (c2 (aC f187))))) K
abbrev qc5 (K:KT):KT:=bu 9 (qc4 K)
abbrev J7 (K:KT):KT:=(qc5 K)
abbrev qcT (K:KT):KT:=bF 187 (lS (pU (bo (c2 (aC f187))))) (oH 187 (ck (bo (c2 (c2 (c2 (aC f187)))))) 14 K)
abbrev qcU (K:KT):KT:=bu 2 (qcT K)
abbrev qcV (K:KT):KT:=bF 187 (bo (wj (ck (bo (c2 (c2 (c2 (aC f187)))))))) (qcU K)
abbrev qcW (K:KT):KT:=bu 5 (qcV K)
abbrev J5 (K:KT):KT:=(qcW K)
abbrev qcY (K:KT):KT:=bF 187 (lS (pU (bo (c2 (aC f187))))) (oH 187 (ck (bo (c2 (c2 (c2 (aC f187)))))) 14 K)
abbrev qcZ (K:KT):KT:=bu 2 (qcY K)
abbrev qc0 (K:KT):KT:=bF 187 (bo (bo (wj (ck (bo (c2 (c2 (c2 (aC f187))))))))) (qcZ K)
abbrev qc1 (K:KT):KT:=bF 187 (lT (pU (bo (lS (wj (Db (bo (aC f187)))))))) (qc0 K)
abbrev qc2 (K:KT):KT:=bu 7 (qc1 K)
abbrev J6 (K:KT):KT:=(qc2 K)
theorem G0 (a0 a1:AV) (m:af):AC ae 187 [a0,a1] m=(aD (AP ae) none m 164 [a0]).bind fun r1=>(aD (AP ae) none r1.2 164 [a1]).bind fun r2=>(aK false r2.1).bind fun v3=>(ag .other .eql v3 (.int .i64 0)).bind fun v4=>aw v4 (some ((.tup [au,au,(.int .i64 31)]),r2.2)) ((aD (AP ae) none r2.2 131 [r1.1,r2.1]).bind fun r5=>(ag .other .lss r5.1 (.int .i64 0)).bind fun v6=>aw v6 ((aD (AP ae) none r5.2 163 [r1.1]).bind fun r7=>some ((.tup [au,r7.1,(.int .i64 0)]),r7.2)) ((aK false r2.1).bind fun v8=>(ag .other .eql v8 (.int .i64 1)).bind fun v9=>aw v9 ((aG none r2.1 (.int .i64 0)).bind fun v10=>(ai none r5.2 v10).bind fun v11=>(aD (AP ae) none r5.2 202 [r1.1,v11]).bind fun kT=>(ba kT.1 0).bind fun bp=>(ba kT.1 1).bind fun bj=>(bm .u64 bj).bind fun bn=>(aD (AP ae) none kT.2 123 [bn]).bind fun gV=>some ((.tup [bp,gV.1,(.int .i64 0)]),gV.2)) ((aK false r2.1).bind fun bB=>(ag .other .sub bB (.int .i64 1)).bind fun fk=>(aG none r2.1 fk).bind fun eU=>(ai none r5.2 eU).bind fun v20=>(aD (AP ae) none r5.2 203 [v20]).bind fun ue=>(bm .u64 ue.1).bind fun v22=>(AC ae 204 [r1.1,v22] ue.2).bind fun mK=>(AC ae 204 [r2.1,v22] mK.2).bind fun nM=>(aD (AP ae) none nM.2 164 [nM.1]).bind fun kC=>(aK false kC.1).bind fun v26=>(aK false mK.1).bind fun jK=>(ag .other .sub jK v26).bind fun v28=>(iV none 161 none (.int .u32 0) 4 kC.2 v28 v28).bind fun Bw=>(aK false mK.1).bind fun v30=>(ag .other .sub v30 v26).bind fun v31=>(ag .other .sub v31 (.int .i64 1)).bind fun mN=>Ch v22 mK.1 kC.1 v26 Bw.1 mN Bw.2 (J3 (aF ae.P f187.results.toList))))):=
(bh ae 187 [a0,a1] m (fn:=f187) (c:=aC f187) qik rfl).trans (by kernel_rfl)
theorem QI (x9 aE aW aL aV aX:AV) (m:af) (K:KT):Ch x9 aE aW aL aV aX m K=(ag .other .geq aX (.int .i64 0)).bind fun v1=>aw v1 ((ag .other .add aX aL).bind fun v2=>(aG none aE v2).bind fun v3=>(ai none m v3).bind fun v4=>(bm .u64 v4).bind fun v5=>(ag .other .shl v5 (.int .u64 32)).bind fun v6=>(ag .other .add aX aL).bind fun v7=>(ag .other .sub v7 (.int .i64 1)).bind fun v8=>(aG none aE v8).bind fun v9=>(ai none m v9).bind fun v10=>(bm .u64 v10).bind fun v11=>(ag .other .or v6 v11).bind fun v12=>(ag .other .sub aL (.int .i64 1)).bind fun bp=>(aG none aW bp).bind fun bj=>(ai none m bj).bind fun bn=>(bm .u64 bn).bind fun bO=>(ag .other .quo v12 bO).bind fun bB=>(ag .other .sub aL (.int .i64 1)).bind fun fk=>(aG none aW fk).bind fun eU=>(ai none m eU).bind fun v20=>(bm .u64 v20).bind fun v21=>(ag .other .rem v12 v21).bind fun v22=>zT x9 aE aW aL aV aX bB v22 m (J4 K)) (K (.exit 1) (KM x9 aE aL aV m)):=
(b7 (bX _) _ _ _).trans (by kernel_rfl)
theorem qeV (x9 aE aW aL aV aX bS eZ:AV) (m:af) (K:KT):zT x9 aE aW aL aV aX bS eZ m K=(ag .other .geq bS (.int .u64 4294967296)).bind fun v1=>aw v1 ((ag .other .sub bS (.int .u64 1)).bind fun v2=>(ag .other .sub aL (.int .i64 1)).bind fun v3=>(aG none aW v3).bind fun v4=>(ai none m v4).bind fun v5=>(bm .u64 v5).bind fun v6=>(ag .other .add eZ v6).bind fun v7=>(ag .other .geq v7 (.int .u64 4294967296)).bind fun v8=>aw v8 (K (.exit 3) (xO x9 aE aW aL aV aX v2 m)) (zT x9 aE aW aL aV aX v2 v7 m K)) ((ag .other .sub aL (.int .i64 2)).bind fun v9=>(aG none aW v9).bind fun v10=>(ai none m v10).bind fun v11=>(bm .u64 v11).bind fun v12=>(ag .other .mul bS v12).bind fun bp=>(ag .other .shl eZ (.int .u64 32)).bind fun bj=>(ag .other .add aX aL).bind fun bn=>(ag .other .sub bn (.int .i64 2)).bind fun bO=>(aG none aE bO).bind fun bB=>(ai none m bB).bind fun fk=>(bm .u64 fk).bind fun eU=>(ag .other .or bj eU).bind fun v20=>(ag .other .gtr bp v20).bind fun v21=>aw v21 ((ag .other .sub bS (.int .u64 1)).bind fun v22=>(ag .other .sub aL (.int .i64 1)).bind fun v23=>(aG none aW v23).bind fun v24=>(ai none m v24).bind fun v25=>(bm .u64 v25).bind fun v26=>(ag .other .add eZ v26).bind fun jK=>(ag .other .geq jK (.int .u64 4294967296)).bind fun v28=>aw v28 (K (.exit 3) (xO x9 aE aW aL aV aX v22 m)) (zT x9 aE aW aL aV aX v22 jK m K)) (K (.exit 3) (xO x9 aE aW aL aV aX bS m))):=
(b7 (bX _) _ _ _).trans (by kernel_rfl)
theorem QJ (x9 aE aW aL aV aX bS dz gM BO rJ:AV) (m:af) (K:KT):Ci x9 aE aW aL aV aX bS dz gM BO rJ m K=(ag .other .lss rJ BO).bind fun v1=>aw v1 ((aG none aW rJ).bind fun v2=>(ai none m v2).bind fun v3=>(bm .u64 v3).bind fun v4=>(ag .other .mul bS v4).bind fun v5=>(ag .other .add gM v5).bind fun v6=>(ag .other .and v6 (.int .u64 4294967295)).bind fun v7=>(ag .other .add v7 dz).bind fun v8=>(ag .other .add rJ aX).bind fun v9=>(aG none aE v9).bind fun v10=>(ai none m v10).bind fun v11=>(bm .u64 v11).bind fun v12=>(ag .other .lss v12 v8).bind fun bp=>aw bp ((ag .other .add rJ aX).bind fun bj=>(ag .other .add rJ aX).bind fun bn=>(aG none aE bn).bind fun bO=>(ai none m bO).bind fun bB=>(bm .u64 bB).bind fun fk=>(ag .other .shl (.int .u64 1) (.int .u64 32)).bind fun eU=>(ag .other .add fk eU).bind fun v20=>(ag .other .sub v20 v8).bind fun v21=>(bm .u32 v21).bind fun v22=>(aG none aE bj).bind fun v23=>(aN none m v23 v22).bind fun m24=>(ag .other .shr v6 (.int .u64 32)).bind fun v25=>(ag .other .add rJ (.int .i64 1)).bind fun v26=>Ci x9 aE aW aL aV aX bS (.int .u64 1) v25 BO v26 m24 K) ((ag .other .add rJ aX).bind fun jK=>(ag .other .add rJ aX).bind fun v28=>(aG none aE v28).bind fun j9=>(ai none m j9).bind fun v30=>(bm .u64 v30).bind fun v31=>(ag .other .shl (.int .u64 0) (.int .u64 32)).bind fun mN=>(ag .other .add v31 mN).bind fun oI=>(ag .other .sub oI v8).bind fun qN=>(bm .u32 qN).bind fun ml=>(aG none aE jK).bind fun vI=>(aN none m vI ml).bind fun m37=>(ag .other .shr v6 (.int .u64 32)).bind fun qO=>(ag .other .add rJ (.int .i64 1)).bind fun rH=>Ci x9 aE aW aL aV aX bS (.int .u64 0) qO BO rH m37 K)) (K (.exit 5) (KN x9 aE aW aL aV aX bS dz gM m)):=
(b7 (bX _) _ _ _).trans (by kernel_rfl)
theorem QK (x9 aE aW aL aV aX bS gM EZ xq:AV) (m:af) (K:KT):Gd x9 aE aW aL aV aX bS gM EZ xq m K=(ag .other .lss xq EZ).bind fun v1=>aw v1 ((ag .other .add xq aX).bind fun v2=>(aG none aE v2).bind fun v3=>(ai none m v3).bind fun v4=>(bm .u64 v4).bind fun v5=>(aG none aW xq).bind fun v6=>(ai none m v6).bind fun v7=>(bm .u64 v7).bind fun v8=>(ag .other .add v5 v8).bind fun v9=>(ag .other .add gM v9).bind fun v10=>(ag .other .add xq aX).bind fun v11=>(bm .u32 v10).bind fun v12=>(aG none aE v11).bind fun bp=>(aN none m bp v12).bind fun m14=>(ag .other .shr v10 (.int .u64 32)).bind fun bn=>(ag .other .add xq (.int .i64 1)).bind fun bO=>Gd x9 aE aW aL aV aX bS bn EZ bO m14 K) (K (.exit 7) (KO x9 aE aW aL aV aX bS gM m)):=
(b7 (bX _) _ _ _).trans (by kernel_rfl)
theorem QL (x9 aE aV iG BP tc:AV) (m:af) (K:KT):Cj x9 aE aV iG BP tc m K=(ag .other .lss tc BP).bind fun v1=>aw v1 ((aG none aE tc).bind fun v2=>(ai none m v2).bind fun v3=>(ag .other .shr v3 x9).bind fun v4=>(aG none iG tc).bind fun v5=>(aN none m v5 v4).bind fun m6=>(ag .other .gtr x9 (.int .u64 0)).bind fun v7=>aw v7 ((aG none iG tc).bind fun v8=>(ai none m6 v8).bind fun v9=>(ag .other .add tc (.int .i64 1)).bind fun v10=>(aG none aE v10).bind fun v11=>(ai none m6 v11).bind fun v12=>(ag .other .sub (.int .u64 32) x9).bind fun bp=>(ag .other .shl v12 bp).bind fun bj=>(ag .other .or v9 bj).bind fun bn=>(aG none iG tc).bind fun bO=>(aN none m6 bO bn).bind fun m17=>(ag .other .add tc (.int .i64 1)).bind fun fk=>Cj x9 aE aV iG BP fk m17 K) ((ag .other .add tc (.int .i64 1)).bind fun eU=>Cj x9 aE aV iG BP eU m6 K)) (K (.exit 9) (KP aV iG m)):=
(b7 (bX _) _ _ _).trans (by kernel_rfl)
theorem qcN (x9 aE aL aV:AV) (m:af):J3 (aF ae.P f187.results.toList) (.exit 1) (KM x9 aE aL aV m)=(iV none 161 none (.int .u32 0) 4 m aL aL).bind fun r1=>Cj x9 aE aV r1.1 aL (.int .i64 0) r1.2 (J7 (aF ae.P f187.results.toList)):=by kernel_rfl
theorem qcS (x9 aE aW aL aV aX bS:AV) (m:af) (K:KT):J4 K (.exit 3) (xO x9 aE aW aL aV aX bS m)=Ci x9 aE aW aL aV aX bS (.int .u64 0) (.int .u64 0) aL (.int .i64 0) m (J5 K):=by kernel_rfl
theorem qc6 (aV iG:AV) (m:af):J7 (aF ae.P f187.results.toList) (.exit 9) (KP aV iG m)=(aD (AP ae) none m 164 [aV]).bind fun r1=>(aD (AP ae) none r1.2 164 [iG]).bind fun r2=>some ((.tup [r1.1,r2.1,(.int .i64 0)]),r2.2):=by kernel_rfl
theorem qcX (x9 aE aW aL aV aX bS dz gM:AV) (m:af) (K:KT):J5 K (.exit 5) (KN x9 aE aW aL aV aX bS dz gM m)=(ag .other .add gM dz).bind fun v1=>(ag .other .add aX aL).bind fun v2=>(aG none aE v2).bind fun v3=>(ai none m v3).bind fun v4=>(bm .u64 v4).bind fun v5=>(ag .other .lss v5 v1).bind fun v6=>(ag .other .add aX aL).bind fun v7=>(ag .other .add aX aL).bind fun v8=>(aG none aE v8).bind fun v9=>(ai none m v9).bind fun v10=>(bm .u64 v10).bind fun v11=>(ag .other .sub v11 v1).bind fun v12=>(bm .u32 v12).bind fun bp=>(aG none aE v7).bind fun bj=>(aN none m bj bp).bind fun m15=>aw v6 ((ag .other .sub bS (.int .u64 1)).bind fun bO=>Gd x9 aE aW aL aV aX bO (.int .u64 0) aL (.int .i64 0) m15 (J6 K)) ((bm .u32 bS).bind fun bB=>(aG none aV aX).bind fun fk=>(aN none m15 fk bB).bind fun m19=>(ag .other .sub aX (.int .i64 1)).bind fun v20=>Ch x9 aE aW aL aV v20 m19 K):=by kernel_rfl
theorem qc3 (x9 aE aW aL aV aX bS gM:AV) (m:af) (K:KT):J6 K (.exit 7) (KO x9 aE aW aL aV aX bS gM m)=(ag .other .add aX aL).bind fun v1=>(aG none aE v1).bind fun v2=>(ai none m v2).bind fun v3=>(bm .u32 gM).bind fun v4=>(ag .other .add v3 v4).bind fun v5=>(aG none aE v1).bind fun v6=>(aN none m v6 v5).bind fun m7=>(bm .u32 bS).bind fun v8=>(aG none aV aX).bind fun v9=>(aN none m7 v9 v8).bind fun m10=>(ag .other .sub aX (.int .i64 1)).bind fun v11=>Ch x9 aE aW aL aV v11 m10 K:=by kernel_rfl
def KS (x6 x7:AV) (m:af):St:=⟨(aP (aO (x6::x7::bI (aO (aH []))))),m⟩
def Gh (x0 x1 x6 x7 x8:AV) (m:af) (K:KT):OM:=b8 202 (ck (c2 (c2 (c2 (aC f202))))) 4 (x0::x1::aP (x6::x7::x8::bI (aO []))) m K
abbrev qdj (K:KT):KT:=bF 202 (bo (aC f202)) K
abbrev qdk (K:KT):KT:=bu 0 (qdj K)
abbrev Ka (K:KT):KT:=(qdk K)
theorem qfV (a0 a1:AV) (m:af):AC ae 202 [a0,a1] m=(aK false a0).bind fun v1=>(iV none 161 none (.int .u32 0) 4 m v1 v1).bind fun r2=>(aK false a0).bind fun v3=>(ag .other .sub v3 (.int .i64 1)).bind fun v4=>Gh a0 a1 r2.1 (.int .u64 0) v4 r2.2 (Ka (aF ae.P f202.results.toList)):=
(bh ae 202 [a0,a1] m (fn:=f202) (c:=aC f202) qio rfl).trans (by kernel_rfl)
theorem QP (x0 x1 x6 x7 x8:AV) (m:af) (K:KT):Gh x0 x1 x6 x7 x8 m K=(ag .other .geq x8 (.int .i64 0)).bind fun v1=>aw v1 ((ag .other .shl x7 (.int .u64 32)).bind fun v2=>(aG none x0 x8).bind fun v3=>(ai none m v3).bind fun v4=>(bm .u64 v4).bind fun v5=>(ag .other .or v2 v5).bind fun v6=>(bm .u64 x1).bind fun v7=>(ag .other .quo v6 v7).bind fun v8=>(bm .u32 v8).bind fun v9=>(aG none x6 x8).bind fun v10=>(aN none m v10 v9).bind fun m11=>(bm .u64 x1).bind fun v12=>(ag .other .rem v6 v12).bind fun bp=>(ag .other .sub x8 (.int .i64 1)).bind fun bj=>Gh x0 x1 x6 bp bj m11 K) (K (.exit 0) (KS x6 x7 m)):=
(b7 (bX _) _ _ _).trans (by kernel_rfl)
theorem qdl (x6 x7:AV) (m:af):Ka (aF ae.P f202.results.toList) (.exit 0) (KS x6 x7 m)=(aD (AP ae) none m 164 [x6]).bind fun r1=>(bm .u32 x7).bind fun v2=>some ((.tup [r1.1,v2]),r1.2):=by kernel_rfl
theorem qfW (a0:AV) (m:af):AC ae 203 [a0] m=(aD (AP ae) none m 199 [a0]).bind fun r1=>(ag .other .sub (.int .i64 32) r1.1).bind fun v2=>some (v2,r1.2):=
(bh ae 203 [a0] m (fn:=f203) (c:=aC f203) qip rfl).trans (by kernel_rfl)
def KU (x5:AV) (m:af):St:=⟨(aP (aH (x5::bI (aO [])))),m⟩
def Gi (x1 x5 aL aV aX:AV) (m:af) (K:KT):OM:=b8 204 (ck (c2 (c2 (aC f204)))) 3 (aH (x1::aO (aH (x5::aP (aO (aL::aV::aX::bD (aY (aH [])))))))) m K
abbrev qdm (K:KT):KT:=bF 204 (c2 (c2 (c2 (aC f204)))) K
abbrev qdn (K:KT):KT:=bu 0 (qdm K)
abbrev P4 (K:KT):KT:=(qdn K)
theorem qfX (a0 a1:AV) (m:af):AC ae 204 [a0,a1] m=(aK false a0).bind fun v1=>(ag .other .add v1 (.int .i64 1)).bind fun v2=>(iV none 161 none (.int .u32 0) 4 m v2 v2).bind fun r3=>(aK false a0).bind fun v4=>Gi a1 r3.1 a0 v4 (.int .i64 0) r3.2 (P4 (aF ae.P f204.results.toList)):=
(bh ae 204 [a0,a1] m (fn:=f204) (c:=aC f204) qiq rfl).trans (by kernel_rfl)
theorem QQ (x1 x5 aL aV aX:AV) (m:af) (K:KT):Gi x1 x5 aL aV aX m K=(ag .other .lss aX aV).bind fun v1=>aw v1 ((aG none aL aX).bind fun v2=>(ai none m v2).bind fun v3=>(aG none x5 aX).bind fun v4=>(ai none m v4).bind fun v5=>(ag .other .shl v3 x1).bind fun v6=>(ag .other .or v5 v6).bind fun v7=>(aG none x5 aX).bind fun v8=>(aN none m v8 v7).bind fun m9=>(ag .other .add aX (.int .i64 1)).bind fun v10=>(bm .u64 v3).bind fun v11=>(ag .other .shl v11 x1).bind fun v12=>(ag .other .shr v12 (.int .u64 32)).bind fun bp=>(bm .u32 bp).bind fun bj=>(aG none x5 v10).bind fun bn=>(aN none m9 bn bj).bind fun m16=>(ag .other .add aX (.int .i64 1)).bind fun bB=>Gi x1 x5 aL aV bB m16 K) (K (.exit 0) (KU x5 m)):=
(b7 (bX _) _ _ _).trans (by kernel_rfl)
theorem qdo (x5:AV) (m:af):P4 (aF ae.P f204.results.toList) (.exit 0) (KU x5 m)=some (x5,m):=by kernel_rfl
theorem qfS (a0:AV) (m:af):AC ae 199 [a0] m=(ag .other .geq a0 (.int .u32 65536)).bind fun v1=>aw v1 ((ag .other .shr a0 (.int .u64 16)).bind fun v2=>(ag .other .geq v2 (.int .u32 256)).bind fun v3=>aw v3 ((ag .other .shr v2 (.int .u64 8)).bind fun v4=>(ag .other .add (.int .i64 16) (.int .i64 8)).bind fun v5=>(bm .u8 v4).bind fun v6=>(sP (.str ⟨⟨[0,1,2,2,3,3,3,3,4,4,4,4,4,4,4,4,5,5,5,5,5,5,5,5,5,5,5,5,5,5,5,5,6,6,6,6,6,6,6,6,6,6,6,6,6,6,6,6,6,6,6,6,6,6,6,6,6,6,6,6,6,6,6,6,7,7,7,7,7,7,7,7,7,7,7,7,7,7,7,7,7,7,7,7,7,7,7,7,7,7,7,7,7,7,7,7,7,7,7,7,7,7,7,7,7,7,7,7,7,7,7,7,7,7,7,7,7,7,7,7,7,7,7,7,7,7,7,7,8,8,8,8,8,8,8,8,8,8,8,8,8,8,8,8,8,8,8,8,8,8,8,8,8,8,8,8,8,8,8,8,8,8,8,8,8,8,8,8,8,8,8,8,8,8,8,8,8,8,8,8,8,8,8,8,8,8,8,8,8,8,8,8,8,8,8,8,8,8,8,8,8,8,8,8,8,8,8,8,8,8,8,8,8,8,8,8,8,8,8,8,8,8,8,8,8,8,8,8,8,8,8,8,8,8,8,8,8,8,8,8,8,8,8,8,8,8,8,8,8,8,8,8,8,8,8,8]⟩⟩) v6).bind fun v7=>(bm .i64 v7).bind fun v8=>(ag .other .add v5 v8).bind fun v9=>some (v9,m)) ((bm .u8 v2).bind fun v10=>(sP (.str ⟨⟨[0,1,2,2,3,3,3,3,4,4,4,4,4,4,4,4,5,5,5,5,5,5,5,5,5,5,5,5,5,5,5,5,6,6,6,6,6,6,6,6,6,6,6,6,6,6,6,6,6,6,6,6,6,6,6,6,6,6,6,6,6,6,6,6,7,7,7,7,7,7,7,7,7,7,7,7,7,7,7,7,7,7,7,7,7,7,7,7,7,7,7,7,7,7,7,7,7,7,7,7,7,7,7,7,7,7,7,7,7,7,7,7,7,7,7,7,7,7,7,7,7,7,7,7,7,7,7,7,8,8,8,8,8,8,8,8,8,8,8,8,8,8,8,8,8,8,8,8,8,8,8,8,8,8,8,8,8,8,8,8,8,8,8,8,8,8,8,8,8,8,8,8,8,8,8,8,8,8,8,8,8,8,8,8,8,8,8,8,8,8,8,8,8,8,8,8,8,8,8,8,8,8,8,8,8,8,8,8,8,8,8,8,8,8,8,8,8,8,8,8,8,8,8,8,8,8,8,8,8,8,8,8,8,8,8,8,8,8,8,8,8,8,8,8,8,8,8,8,8,8,8,8,8,8,8,8]⟩⟩) v10).bind fun v11=>(bm .i64 v11).bind fun v12=>(ag .other .add (.int .i64 16) v12).bind fun bp=>some (bp,m))) ((ag .other .geq a0 (.int .u32 256)).bind fun bj=>aw bj ((ag .other .shr a0 (.int .u64 8)).bind fun bn=>(ag .other .add (.int .i64 0) (.int .i64 8)).bind fun bO=>(bm .u8 bn).bind fun bB=>(sP (.str ⟨⟨[0,1,2,2,3,3,3,3,4,4,4,4,4,4,4,4,5,5,5,5,5,5,5,5,5,5,5,5,5,5,5,5,6,6,6,6,6,6,6,6,6,6,6,6,6,6,6,6,6,6,6,6,6,6,6,6,6,6,6,6,6,6,6,6,7,7,7,7,7,7,7,7,7,7,7,7,7,7,7,7,7,7,7,7,7,7,7,7,7,7,7,7,7,7,7,7,7,7,7,7,7,7,7,7,7,7,7,7,7,7,7,7,7,7,7,7,7,7,7,7,7,7,7,7,7,7,7,7,8,8,8,8,8,8,8,8,8,8,8,8,8,8,8,8,8,8,8,8,8,8,8,8,8,8,8,8,8,8,8,8,8,8,8,8,8,8,8,8,8,8,8,8,8,8,8,8,8,8,8,8,8,8,8,8,8,8,8,8,8,8,8,8,8,8,8,8,8,8,8,8,8,8,8,8,8,8,8,8,8,8,8,8,8,8,8,8,8,8,8,8,8,8,8,8,8,8,8,8,8,8,8,8,8,8,8,8,8,8,8,8,8,8,8,8,8,8,8,8,8,8,8,8,8,8,8,8]⟩⟩) bB).bind fun fk=>(bm .i64 fk).bind fun eU=>(ag .other .add bO eU).bind fun v20=>some (v20,m)) ((bm .u8 a0).bind fun v21=>(sP (.str ⟨⟨[0,1,2,2,3,3,3,3,4,4,4,4,4,4,4,4,5,5,5,5,5,5,5,5,5,5,5,5,5,5,5,5,6,6,6,6,6,6,6,6,6,6,6,6,6,6,6,6,6,6,6,6,6,6,6,6,6,6,6,6,6,6,6,6,7,7,7,7,7,7,7,7,7,7,7,7,7,7,7,7,7,7,7,7,7,7,7,7,7,7,7,7,7,7,7,7,7,7,7,7,7,7,7,7,7,7,7,7,7,7,7,7,7,7,7,7,7,7,7,7,7,7,7,7,7,7,7,7,8,8,8,8,8,8,8,8,8,8,8,8,8,8,8,8,8,8,8,8,8,8,8,8,8,8,8,8,8,8,8,8,8,8,8,8,8,8,8,8,8,8,8,8,8,8,8,8,8,8,8,8,8,8,8,8,8,8,8,8,8,8,8,8,8,8,8,8,8,8,8,8,8,8,8,8,8,8,8,8,8,8,8,8,8,8,8,8,8,8,8,8,8,8,8,8,8,8,8,8,8,8,8,8,8,8,8,8,8,8,8,8,8,8,8,8,8,8,8,8,8,8,8,8,8,8,8,8]⟩⟩) v21).bind fun v22=>(bm .i64 v22).bind fun v23=>(ag .other .add (.int .i64 0) v23).bind fun v24=>some (v24,m))):=
(bh ae 199 [a0] m (fn:=f199) (c:=aC f199) qil rfl).trans (by kernel_rfl)
end
end Go.Ab
namespace Go.Ab
open Go.Proofs.Tryz
theorem qeT (x:NV) (m:af) (K:KT):∀ n:Nat,n<=x.ds.length->x.ds.length < 2 ^ 62->FZ x.av (.int .i64 n) m K=K (.exit 0) (GH x.av (.int .i64 (lP x.ds n)) m):=by
 intro n
 induction n with
 | zero=>
  intro _ _;rw[Qw];simp[hJ,aw,lP]
 | succ n ih=>
  intro hn hl;have ih:=ih (by omega) hl;rw[Qw];have h1:((n+1:Nat):Int) > 0:=by omega
  have h2:IntKind.wrap .i64 (((n+1:Nat):Int) - 1)=n:=by rw[iK]<;>omega
  simp only[hJ,aa,az,an h1,pv,h2];rw[NV.av,ua (by omega) (by omega)];simp only[aa,gz,dg,ir,az,cK];rw[lP]
  by_cases h:x.ds.getD n 0=0
  ·rw[an (by omega),an h];exact ih
  ·rw[aj (by omega),aj h]
theorem qfI (x:NV) (m:af) (hl:x.ds.length < 2 ^ 62):AC ae 164 [x.av] m=some (NV.av ⟨x.z,.no,tr x.ds⟩,m):=by
 rw[qfH];simp only[NV.av,oW,aa,bU];have:=qeT x m (JU (aF ae.P f164.results.toList)) x.ds.length (aR _) hl;rw[NV.av] at this;rw[this,qbX,YO (by omega) (by have:=EA x.ds x.ds.length;omega)];simp[tr]
theorem qZ (x:NV) (hl:x.ds.length < 2 ^ 62):AP ae 164 [x.av]=some (NV.av ⟨x.z,.no,tr x.ds⟩):=
 iH (qfI x [] hl) (cu _ _) (by simp[pK])
theorem qeR (x y:NV) (m:af) (K:KT) (hl:x.ds.length < 2 ^ 62):∀ n:Nat,n<=x.ds.length->n<=y.ds.length ->
  FR x.av y.av (.int .i64 ((n:Int) - 1)) m K=if mC x.ds y.ds n=0 then K (.exit 1) (Kz m) else K .ret (GP (.int .i64 (mC x.ds y.ds n)) m):=by
 intro n
 induction n with
 | zero=>
  intro _ _;rw[Qm];simp[kF,aw,mC]
 | succ n ih=>
  intro hx hy;have ih:=ih (by omega) (by omega);rw[Qm];have h1:((n+1:Nat):Int) - 1=n:=by omega
  have h0:(n:Int)≥0:=by omega
  have h2:IntKind.wrap .i64 ((n:Int) - 1)=(n:Int) - 1:=by rw[iK]<;>omega
  simp only[h1,kF,aa,az,an h0];simp only[NV.av] at ih ⊢;rw[ua (by omega) (by omega),ua (by omega) (by omega)];simp only[aa,gz,dg,bg,hJ,az,cK,pv,h2];rw[mC]
  by_cases h:x.ds.getD n 0 < y.ds.getD n 0
  ·rw[an (by omega),an h]
   rfl
  ·rw[aj (by omega),aj h]
   by_cases h':x.ds.getD n 0 > y.ds.getD n 0
   ·rw[an (by omega),an h']
    rfl
   ·rw[aj (by omega),aj h'];exact ih
theorem qfs (x y:NV) (m:af) (hx:x.ds.length < 2 ^ 62) (hy:y.ds.length < 2 ^ 62):AC ae 131 [x.av,y.av] m=some (.int .i64 (uN (tr x.ds) (tr y.ds)),m):=by
 have ha:(tr x.ds).length < 2 ^ 62:=by simp only[tr,ji];omega
 rw[qfr,cw (cu x),qZ x.fr hx];simp only[aQ,aa,cw (cu y),qZ y.fr hy];simp only[NV.av,oW,bU,aa,bg,hJ,az,pv,NV.fr];unfold uN
 by_cases h:(tr x.ds).length < (tr y.ds).length
 ·rw[an (by omega),an h]
 ·rw[aj (by omega),aj h]
  by_cases h':(tr x.ds).length > (tr y.ds).length
  ·rw[an (by omega),an h']
  ·rw[aj (by omega),aj h',iK (by omega) (by omega)];have:=qeR ⟨x.z,.no,tr x.ds⟩ ⟨y.z,.no,tr y.ds⟩ m (Fh (aF ae.P f131.results.toList)) ha (tr x.ds).length (aR _) (by simp only;omega);simp only[NV.av] at this;rw[this,qbn,qbm]
   split
   ·rename_i h0;rw[h0]
   ·rfl
theorem qe4 (x y:NV) (hx:x.ds.length < 2 ^ 62) (hy:y.ds.length < 2 ^ 62):AP ae 131 [x.av,y.av]=some (.int .i64 (uN (tr x.ds) (tr y.ds))):=
 iH (qfs x y [] hx hy) (gu _ _ _) (by simp[iQ])
theorem Qk (x y:NV) (m:af) (K:KT) (hl:x.ds.length < 2 ^ 40) (hy:y.ds.length<=x.ds.length) (dx:Dg x.ds) (dy:Dg y.ds):∀ j i:Nat,i+j=x.ds.length ->
  zM y.av (.lst none false (.tok m.length 161) ((cB x.ds y.ds i).1.map dg)) (.int .u64 (cB x.ds y.ds i).2) x.av (.int .i64 x.ds.length) (.int .i64 i) (nQ m i) K
   = K (.exit 0) (GF (.lst none false (.tok m.length 161) ((cB x.ds y.ds x.ds.length).1.map dg)) (.int .u64 (cB x.ds y.ds x.ds.length).2) (nQ m x.ds.length)):=by
 intro j
 induction j with
 | zero=>
  intro i hi;have:i=x.ds.length:=by omega
  subst this;rw[Ql];simp[bg,aw]
 | succ j ih=>
  intro i hi;have ih:=ih (i+1) (by omega);have hc:=xV dx dy i;have h1:=dx i;have h2:=dy i;rw[Ql];have fK:((i:Nat):Int) < (x.ds.length:Int):=by omega
  have hw:IntKind.wrap .i64 ((i:Int)+1)=((i+1:Nat):Int):=by rw[iK]<;>omega
  simp only[bg,aa,az,an fK];simp only[NV.av] at ih ⊢
  have mV:aG none (.lst none x.z x.o (x.ds.map dg)) (.int .i64 i)=some (.vptr [dg (x.ds.getD i 0)]):=by
   rw[ua (by omega) (by omega)];simp
  rw[mV];have e1:IntKind.wrap .u64 ((x.ds.getD i 0:Nat):Int)=(x.ds.getD i 0:Nat):=by rw[jn]<;>omega
  have e2:IntKind.wrap .u64 (((cB x.ds y.ds i).2:Int)+(x.ds.getD i 0:Nat))=(((cB x.ds y.ds i).2+x.ds.getD i 0:Nat):Int):=by rw[jn]<;>omega
  simp only[aa,gz,dg,lR,e1,kQ,e2,oW,bU,bg,az,hw]
  have fin:∀ s:Nat,s=(cB x.ds y.ds i).2+x.ds.getD i 0+y.ds.getD i 0->(cg none false 161 none 4 (nQ m i) (.lst none false (.tok m.length 161) ((cB x.ds y.ds i).1.map dg)) (.lst none false .full [.int .u32 (IntKind.wrap .u32 s)]))=some (.lst none false (.tok m.length 161) ((cB x.ds y.ds (i+1)).1.map dg),nQ m (i+1)):=by
   intro s hs;have hlen:((cB x.ds y.ds i).1.map dg).length=i:=by rw[bU,wa]
   have:=C0 (e:=161) (b:=4) (m:=m) (es:=(cB x.ds y.ds i).1.map dg) (z:=false) (o:=.full) (y:=.int .u32 (IntKind.wrap .u32 s)) (by rw[hlen];simp only[gL];omega);rw[hlen] at this;rw[this];congr 3;simp only[cB,kX,fV,qT,dg,xp,<- hs]
   rfl
  by_cases h:(i:Int) < (y.ds.length:Int)
  ·rw[an h]
   have qlb:aG none (.lst none y.z y.o (y.ds.map dg)) (.int .i64 i)=some (.vptr [dg (y.ds.getD i 0)]):=by
    rw[ua (by omega) (by omega)];simp
   have e3:IntKind.wrap .u64 ((y.ds.getD i 0:Nat):Int)=(y.ds.getD i 0:Nat):=by rw[jn]<;>omega
   have e4:IntKind.wrap .u64 ((((cB x.ds y.ds i).2+x.ds.getD i 0:Nat):Int)+(y.ds.getD i 0:Nat))=(((cB x.ds y.ds i).2+x.ds.getD i 0+y.ds.getD i 0:Nat):Int):=by rw[jn]<;>omega
   have U8:=qlb;simp only[dg] at U8;rw[U8];simp only[aa,gz,lR,e3,kQ,e4,rh];have f:=fin _ rfl;rw[f];simp only[aa,C2 _ _ _ (rR _),hw];exact ih
  ·rw[aj h]
   have h0:y.ds.getD i 0=0:=by
    rw[aT,mQ (by omega)];rfl
   simp only[aa,lR,rh];have f:=fin ((cB x.ds y.ds i).2+x.ds.getD i 0) (by omega);rw[f];simp only[aa,C2 _ _ _ (rR _),kQ,hw];have:(cB x.ds y.ds (i+1)).2=((cB x.ds y.ds i).2+x.ds.getD i 0) / 4294967296:=by simp only[cB,h0,ke]
   rw[this] at ih;exact ih
theorem PZ (a b:List Nat) (m:af) (hl:a.length < 2 ^ 40) (da:Dg a) (db:Dg b):zI (aF ae.P f130.results.toList) (.exit 0) (GF (.lst none false (.tok m.length 161) ((cB a b a.length).1.map dg)) (.int .u64 (cB a b a.length).2) (nQ m a.length))=some (NV.av ⟨false,.no,CX a b⟩,nQ m (a.length+1)):=by
 have hc:=xV da db a.length;have hlen:((cB a b a.length).1.map dg).length=a.length:=by rw[bU,wa]
 rw[qbj];simp only[lR,aa,rh,zx (rR _) (by omega:(((cB a b a.length).2:Nat):Int) < 4294967296)];have:=C0 (e:=161) (b:=4) (m:=m) (es:=(cB a b a.length).1.map dg) (z:=false) (o:=.full) (y:=.int .u32 (cB a b a.length).2) (by rw[hlen];simp only[gL];omega);rw[hlen] at this;rw[this];simp only[aa];have e:(AV.lst none false (.tok m.length 161) ((cB a b a.length).1.map dg++[.int .u32 (cB a b a.length).2]))=NV.av ⟨false,.tok m.length 161,(cB a b a.length).1++[(cB a b a.length).2]⟩:=by simp[NV.av,dg]
 rw[e,cw (cu _),qZ _ (by simp only[NV.fr,aI,wa,aJ,aM];omega)]
 rfl
theorem qfq (x y:NV) (m:af) (hx:x.ds.length < 2 ^ 40) (hy:y.ds.length < 2 ^ 40) (dx:Dg x.ds) (dy:Dg y.ds):∃ m',AC ae 130 [x.av,y.av] m=some (NV.av ⟨false,.no,Ak (tr x.ds) (tr y.ds)⟩,m'):=by
 have ic:=BJ x.ds;have yQ:=BJ y.ds;have dx':=ta dx;have dy':=ta dy;rw[qfp,cw (cu x),qZ x.fr (by simp only[NV.fr];omega)];simp only[aQ,aa,cw (cu y),qZ y.fr (by simp only[NV.fr];omega)];simp only[NV.av,oW,bU,aa,bg,az,kQ,NV.fr];unfold Ak
 by_cases h:(tr x.ds).length < (tr y.ds).length
 ·rw[an (by omega),an h,iK (by omega) (by omega),WG (by omega) (by omega) (by omega)];simp only[aa];have:=Qk ⟨y.z,.no,tr y.ds⟩ ⟨x.z,.no,tr x.ds⟩ m (zI (aF ae.P f130.results.toList)) (by simp only;omega) (by simp only;omega) dy' dx' (tr y.ds).length 0 (by simp);simp only[NV.av,cB,qT] at this;refine ⟨_,this.trans (PZ (tr y.ds) (tr x.ds) m (by omega) dy' dx')⟩
 ·rw[aj (by omega),aj h,iK (by omega) (by omega),WG (by omega) (by omega) (by omega)];simp only[aa];have:=Qk ⟨x.z,.no,tr x.ds⟩ ⟨y.z,.no,tr y.ds⟩ m (zI (aF ae.P f130.results.toList)) (by simp only;omega) (by simp only;omega) dx' dy' (tr x.ds).length 0 (by simp);simp only[NV.av,cB,qT] at this;refine ⟨_,this.trans (PZ (tr x.ds) (tr y.ds) m (by omega) dx' dy')⟩
theorem qe3 (x y:NV) (hx:x.ds.length < 2 ^ 40) (hy:y.ds.length < 2 ^ 40) (dx:Dg x.ds) (dy:Dg y.ds):AP ae 130 [x.av,y.av]=some (NV.av ⟨false,.no,Ak (tr x.ds) (tr y.ds)⟩):=by
 obtain ⟨m',h⟩:=qfq x y [] hx hy dx dy;exact iH h (cu _ _) (by simp[pK])
theorem qeQ (y:NV) (m:af) (K:KT) (x i n:Nat) (s:List Nat×Nat) (v21 v22 v23:AV) (hl:n < 2 ^ 42) (hn:s.1.length=n) (hi:i+y.ds.length<=n) (dy:Dg y.ds) (hx:x < 4294967296) (hs:Dg s.1) (hc:s.2 < 4294967296):∀ j k:Nat,k+j=y.ds.length ->
  FP y.av (.arr m.length 0 n none) (.int .i64 i) (dg x) (.int .u64 (gP y.ds x i k s).2) v21 v22 v23 y.av (.int .i64 y.ds.length) (.int .i64 k) (nj m (gP y.ds x i k s).1) K
   = K (.exit 2) (Ky y.av (.arr m.length 0 n none) (.int .i64 i) (.int .u64 (gP y.ds x i y.ds.length s).2) v21 v22 v23 (nj m (gP y.ds x i y.ds.length s).1)):=by
 intro j
 induction j with
 | zero=>
  intro k hk;have:k=y.ds.length:=by omega
  subst this;rw[Qi];simp[bg,aw]
 | succ j ih=>
  intro k hk;have ih:=ih (k+1) (by omega);obtain ⟨h1,h2⟩:=Bi (i:=i) dy hx hs hc k;have h3:=h1 (i+k);have h4:=dy k;have h5:x * y.ds.getD k 0<=4294967295 * 4294967295:=rZ (by omega) (by omega);have hlen:=wZ y.ds x i s k;rw[Qi];have bL:((k:Nat):Int) < (y.ds.length:Int):=by omega
  have hw:IntKind.wrap .i64 ((k:Int)+1)=((k+1:Nat):Int):=by rw[iK]<;>omega
  have A6:IntKind.wrap .i64 ((i:Int)+k)=((i+k:Nat):Int):=by rw[iK]<;>omega
  simp only[bg,aa,az,an bL]
  have mV:aG none y.av (.int .i64 k)=some (.vptr [dg (y.ds.getD k 0)]):=by
   rw[NV.av,ua (by omega) (by omega)];simp
  rw[mV];simp only[aa,gz,kQ,A6];rw[fU (by omega),aa,qmy (by omega)];have e1:IntKind.wrap .u64 (((gP y.ds x i k s).1.getD (i+k) 0:Nat):Int)=((gP y.ds x i k s).1.getD (i+k) 0:Nat):=by rw[jn]<;>omega
  have e2:IntKind.wrap .u64 ((x:Nat):Int)=x:=by rw[jn]<;>omega
  have e3:IntKind.wrap .u64 ((y.ds.getD k 0:Nat):Int)=(y.ds.getD k 0:Nat):=by rw[jn]<;>omega
  have e4:IntKind.wrap .u64 ((x:Int) * (y.ds.getD k 0:Nat))=((x * y.ds.getD k 0:Nat):Int):=by rw[<- rQ,jn]<;>omega
  have e5:IntKind.wrap .u64 ((((gP y.ds x i k s).1.getD (i+k) 0:Nat):Int)+(x * y.ds.getD k 0:Nat))=(((gP y.ds x i k s).1.getD (i+k) 0+x * y.ds.getD k 0:Nat):Int):=by rw[jn]<;>omega
  have e6:IntKind.wrap .u64 (((gP y.ds x i k s).2:Int)+((gP y.ds x i k s).1.getD (i+k) 0+x * y.ds.getD k 0:Nat))=(((gP y.ds x i k s).2+((gP y.ds x i k s).1.getD (i+k) 0+x * y.ds.getD k 0):Nat):Int):=by rw[jn]<;>omega
  have e7:IntKind.wrap .u32 (((gP y.ds x i k s).2+((gP y.ds x i k s).1.getD (i+k) 0+x * y.ds.getD k 0):Nat):Int)=((((gP y.ds x i k s).2+((gP y.ds x i k s).1.getD (i+k) 0+x * y.ds.getD k 0)) % 4294967296:Nat):Int):=by rw[xp];rfl
  simp only[dg,aa,lR,e1,e2,e3,we,e4,e5,e6,e7,kQ,A6];rw[BE (by omega)];simp only[aa,C2 _ _ _ (rR _),hw];exact ih
theorem qeP (x y:NV) (m:af) (K:KT) (hx:x.ds.length < 2 ^ 40) (hy:y.ds.length < 2 ^ 40) (dx:Dg x.ds) (dy:Dg y.ds):∀ j i:Nat,i+j=x.ds.length ->
  FO y.av (.arr m.length 0 (x.ds.length+y.ds.length) none) x.av (.int .i64 x.ds.length) (.int .i64 i) (nj m (iL x.ds y.ds i)) K
   = K (.exit 0) (Kx (.arr m.length 0 (x.ds.length+y.ds.length) none) (nj m (iL x.ds y.ds x.ds.length))):=by
 intro j
 induction j with
 | zero=>
  intro i hi;have:i=x.ds.length:=by omega
  subst this;rw[Qh];simp[bg,aw]
 | succ j ih=>
  intro i hi;have ih:=ih (i+1) (by omega);rw[Qh];have fK:((i:Nat):Int) < (x.ds.length:Int):=by omega
  have hw:IntKind.wrap .i64 ((i:Int)+1)=((i+1:Nat):Int):=by rw[iK]<;>omega
  have A6:IntKind.wrap .i64 ((i:Int)+y.ds.length)=((i+y.ds.length:Nat):Int):=by rw[iK]<;>omega
  simp only[bg,aa,az,an fK]
  have mV:aG none x.av (.int .i64 i)=some (.vptr [dg (x.ds.getD i 0)]):=by
   rw[NV.av,ua (by omega) (by omega)];simp
  have hlen:aK false y.av=some (.int .i64 y.ds.length):=by simp[NV.av,aK]
  rw[mV];simp only[aa,gz,hlen];have hb:=qeQ y m (JP K) (x.ds.getD i 0) i (x.ds.length+y.ds.length) (iL x.ds y.ds i,0) x.av (.int .i64 x.ds.length) (.int .i64 i) (by omega) (wY ..) (by omega) dy (dx i) (yZ dx dy i) (by simp) y.ds.length 0 (by omega);simp only[gP] at hb;refine hb.trans ?_;obtain ⟨h1,h2⟩:=Bi (i:=i) (s:=(iL x.ds y.ds i,0)) dy (dx i) (yZ dx dy i) (by simp) y.ds.length;have hl:=wZ y.ds (x.ds.getD i 0) i (iL x.ds y.ds i,0) y.ds.length;simp only[wY] at hl;rw[qbc];simp only[hlen,aa,kQ,A6,lR,zx (rR _) (by omega:(((gP y.ds (x.ds.getD i 0) i y.ds.length (iL x.ds y.ds i,0)).2:Nat):Int) < 4294967296)];rw[fU (by omega),aa,BE (by omega)];simp only[aa,hw];exact ih
theorem qfm (x y:NV) (m:af) (hx:x.ds.length < 2 ^ 40) (hy:y.ds.length < 2 ^ 40) (dx:Dg x.ds) (dy:Dg y.ds):AC ae 127 [x.av,y.av] m=some (NV.av ⟨false,.no,Ef (tr x.ds) (tr y.ds)⟩,m++[none]):=by
 have ic:=BJ x.ds;have yQ:=BJ y.ds;rw[qfl,cw (cu x),qZ x.fr (by simp only[NV.fr];omega)];simp only[aQ,aa,cw (cu y),qZ y.fr (by simp only[NV.fr];omega)];have hl:∀ x:NV,aK false x.av=some (.int .i64 x.ds.length):=fun x=>by simp[NV.av,aK]
 have hw:IntKind.wrap .i64 (((tr x.ds).length:Int)+(tr y.ds).length)=(((tr x.ds).length+(tr y.ds).length:Nat):Int):=by rw[iK]<;>omega
 simp only[hl,aa,kQ,NV.fr,hw];rw[WE (by omega) (by omega)];simp only[aa];have:=qeP ⟨x.z,.no,tr x.ds⟩ ⟨y.z,.no,tr y.ds⟩ m (JO (aF ae.P f127.results.toList)) (by simp only;omega) (by simp only;omega) (ta dx) (ta dy) (tr x.ds).length 0 (by simp);refine this.trans ?_;rw[qa7];have hlen:=wY (tr x.ds) (tr y.ds) (tr x.ds).length;have hp:=qnG (cp:=AP ae) (m:=m) (g:=164) (ds:=iL (tr x.ds) (tr y.ds) (tr x.ds).length);rw[hlen] at hp;rw[hp];have:=qZ ⟨false,.no,iL (tr x.ds) (tr y.ds) (tr x.ds).length⟩ (by simp only[hlen];omega);simp only[NV.av] at this;rw[this]
 rfl
theorem qe2 (x y:NV) (hx:x.ds.length < 2 ^ 40) (hy:y.ds.length < 2 ^ 40) (dx:Dg x.ds) (dy:Dg y.ds):AP ae 127 [x.av,y.av]=some (NV.av ⟨false,.no,Ef (tr x.ds) (tr y.ds)⟩):=
 iH (qfm x y [] hx hy dx dy) (cu _ _) (by simp[pK])
def NV.ok (x:NV):Prop:=x.z=true->x.ds=[]
def tC (x:NV):NV:=⟨x.z,if x.ds=[] then .full else .no,x.ds⟩
theorem Ru (x:NV) (hz:x.ok) (hx:x.ds.length < 2 ^ 40):AP ae 163 [x.av]=some (tC x).av:=by
 have h0:ag .sl .eql x.av au=some (.bool x.z):=rfl;obtain ⟨z,o,ds⟩:=x
 cases z with
 | true=>
  have:ds=[]:=hz rfl;subst this;refine iH (v:=NV.av ⟨true,.full,[]⟩) (m:=[]) ?_ (cu _ _) (by simp[pK]);rw[Lf,h0]
  rfl
 | false=>
  cases ds with
  | nil=>
   refine iH (v:=NV.av ⟨false,.full,[]⟩) (m:=[]) ?_ (cu _ _) (by simp[pK]);rw[Lf,h0]
   rfl
  | cons d ds=>
   refine iH (v:=NV.av ⟨false,.tok 0 161,d::ds⟩) (m:=[some (.tok (d::ds).length 1)]) ?_ (cu _ _) (by simp[pK]);rw[Lf,h0];have hl:(ds.length+1) * 4<=140737488355328:=by simp only[aJ] at hx;omega
   simp only[aa,aw,fh,List.all_nil,bq,qT,NV.av,fV,cg,aM,aJ,bU,bf,gL,hl,true_or,jM,lL,aA,bE,Sh.size]
theorem qjL (x:NV):(tC x).fr=tC x:=by
 unfold tC NV.fr;simp only[];split<;>rfl
theorem qkw (x:NV):Fz (tC x).av (tC x).av:=by
 have:=cu (tC x)
 rwa [qjL] at this
def Oq (n:Nat):List Nat:=tr [n % 4294967296,n / 4294967296]
theorem qe1 (n:Nat) (hn:n < 18446744073709551616):AP ae 123 [.int .u64 n]=some (tC ⟨false,.no,Oq n⟩).av:=by
 have e1:IntKind.wrap .u32 (n:Int)=((n % 4294967296:Nat):Int):=by rw[xp];rfl
 have e2:IntKind.wrap .u32 ((n:Int) / 4294967296)=((n / 4294967296:Nat):Int):=by rw[zx]<;>omega
 have hb:fh none [.int .u32 ((n % 4294967296:Nat):Int),.int .u32 ((n / 4294967296:Nat):Int)]=some (NV.av ⟨false,.full,[n % 4294967296,n / 4294967296]⟩):=rfl;have hl:(tr [n % 4294967296,n / 4294967296]).length<=2:=BJ _;refine iH (m:=[]) ?_ (qkw _ _) (by simp[pK]);rw[qfj];simp only[lR,aa,e1,C2 _ _ _ (rR _),e2,hb];rw[cw (cu _),qZ _ (by simp[NV.fr])];simp only[aQ,aa];rw[cw (cu _),Ru _ (by simp[NV.ok,NV.fr]) (by simp only[NV.fr];omega)]
 rfl
def w8 (a:List Nat):Bool:=decide (a.length=0) || decide (a.getD (a.length - 1) 0≠0)
theorem qe5 (x:NV) (hx:x.ds.length < 2 ^ 40):AP ae 181 [x.av]=some (.bool (w8 x.ds)):=by
 refine iH (m:=[]) ?_ (px _ _) (by simp[iQ]);have hl:aK false x.av=some (.int .i64 x.ds.length):=by simp[NV.av,aK]
 rw[qfO];simp only[hl,aa,ir,az]
 by_cases h:x.ds.length=0
 ·rw[an (by omega)];simp[w8,h]
 ·rw[aj (by omega)];have hw:IntKind.wrap .i64 ((x.ds.length:Int) - 1)=((x.ds.length - 1:Nat):Int):=by rw[iK]<;>omega
  simp only[pv,aa,hw]
  have mV:aG none x.av (.int .i64 ((x.ds.length - 1:Nat):Int))=some (.vptr [dg (x.ds.getD (x.ds.length - 1) 0)]):=by
   rw[NV.av,ua (by omega) (by omega)];simp
  rw[mV];simp only[aa,gz,dg,iY];congr 2;simp only[w8,h,decide_false,zE,AV.bool.injEq,jD];omega
def s7 (a:List Nat):AV:=match a with
 | []=>.tup [.int .u64 0,.bool true]
 | [d]=>.tup [.int .u64 d,.bool true]
 | [d,e]=>.tup [.int .u64 (d+e * 4294967296:Nat),.bool true]
 | _=>.tup [.int .u64 0,.bool false]
theorem HH (a:List Nat):Fz (s7 a) (s7 a)/\iQ (s7 a)=true:=by
 unfold s7;split<;>exact ⟨fun _=>rfl,rfl⟩
theorem qe6 (x:NV) (hx:x.ds.length < 2 ^ 40) (dx:Dg x.ds):AP ae 182 [x.av]=some (s7 (tr x.ds)):=by
 refine iH (m:=[]) ?_ ((HH _).1 _) (by simp[(HH _).2]);have hl:∀ x:NV,aK false x.av=some (.int .i64 x.ds.length):=fun x=>by simp[NV.av,aK]
 rw[qfP,cw (cu x),qZ x.fr (by simp only[NV.fr];omega)];have dt:=ta dx;simp only[aQ,aa,hl,ir,az,NV.fr];generalize tr x.ds=a at dt
 match a,dt with
 | [],_=>rfl
 | [d],dt=>
  have h0:=dt 0;simp only[pk] at h0;rw[aj (by simp),an (by simp)];simp only[NV.av];rw[show aG none (.lst none x.z .no ([d].map dg)) (.int .i64 0)=some (.vptr [dg d]) from rfl];simp only[aa,gz,dg,lR,jn (rR d) (by omega)]
  rfl
 | [d,e],dt=>
  have h0:=dt 0;have h1:=dt 1;simp only[pk,xI] at h0 h1;rw[aj (by simp),aj (by simp),an (by simp)];simp only[NV.av];rw[show aG none (.lst none x.z .no ([d,e].map dg)) (.int .i64 0)=some (.vptr [dg d]) from rfl,show aG none (.lst none x.z .no ([d,e].map dg)) (.int .i64 1)=some (.vptr [dg e]) from rfl];simp only[aa,gz,dg,lR,jn (rR d) (by omega),jn (rR e) (by omega),Tb _ _ e h1,qjj _ d e h0 h1]
  rfl
 | d::e::f::l,_=>
  rw[aj (by simp only[aJ];omega),aj (by simp only[aJ];omega),aj (by simp only[aJ];omega)]
  rfl
theorem qeS (x y:NV) (m:af) (K:KT) (hl:x.ds.length < 2 ^ 40) (dx:Dg x.ds) (dy:Dg y.ds):∀ j i:Nat,i+j=x.ds.length ->
  xG y.av (.arr m.length 0 x.ds.length none) (.int .u64 (gD x.ds y.ds i).2) x.av (.int .i64 x.ds.length) (.int .i64 i) (nj m (gD x.ds y.ds i).1) K
   = K (.exit 0) (KA (.arr m.length 0 x.ds.length none) (nj m (gD x.ds y.ds x.ds.length).1)):=by
 intro j
 induction j with
 | zero=>
  intro i hi;have:i=x.ds.length:=by omega
  subst this;rw[Qn];simp[bg,aw]
 | succ j ih=>
  intro i hi;have ih:=ih (i+1) (by omega);have hc:=Jm x.ds y.ds i;have hlen:=BH x.ds y.ds i;have h1:=dx i;have h2:=dy i;rw[Qn];have fK:((i:Nat):Int) < (x.ds.length:Int):=by omega
  have hw:IntKind.wrap .i64 ((i:Int)+1)=((i+1:Nat):Int):=by rw[iK]<;>omega
  have e1:IntKind.wrap .u64 ((x.ds.getD i 0:Nat):Int)=(x.ds.getD i 0:Nat):=by rw[jn]<;>omega
  have e2:IntKind.wrap .u64 ((y.ds.getD i 0:Nat):Int)=(y.ds.getD i 0:Nat):=by rw[jn]<;>omega
  have e3:IntKind.wrap .u64 (((gD x.ds y.ds i).2:Int)+(y.ds.getD i 0:Nat))=(((gD x.ds y.ds i).2+y.ds.getD i 0:Nat):Int):=by rw[jn]<;>omega
  have s1:ag .other .shl (.int .u64 1) (.int .u64 32)=some (.int .u64 4294967296):=rfl;have s0:ag .other .shl (.int .u64 0) (.int .u64 32)=some (.int .u64 0):=rfl;simp only[bg,aa,az,an fK,ma (by omega:i < x.ds.length),gz,gZ]
  have big:∀ t:Nat,t=(gD x.ds y.ds i).2+y.ds.getD i 0->x.ds.getD i 0 < t->
    IntKind.wrap .u32 (IntKind.wrap .u64 (IntKind.wrap .u64 ((x.ds.getD i 0:Nat)+4294967296:Int) - (t:Nat)))=((x.ds.getD i 0+4294967296 - t:Nat):Int)/\gD x.ds y.ds (i+1)=((gD x.ds y.ds i).1.set i (x.ds.getD i 0+4294967296 - t),1):=by
   intro t ht hlt;refine ⟨?_,by simp only[gD,<- ht,an hlt]⟩;rw[jn (x:=((x.ds.getD i 0:Nat):Int)+4294967296) (by omega) (by omega),jn (by omega) (by omega),zx (by omega) (by omega)];omega
  have small:∀ t:Nat,t=(gD x.ds y.ds i).2+y.ds.getD i 0->¬ x.ds.getD i 0 < t->
    IntKind.wrap .u32 (IntKind.wrap .u64 (IntKind.wrap .u64 ((x.ds.getD i 0:Nat)+0:Int) - (t:Nat)))=((x.ds.getD i 0 - t:Nat):Int)/\gD x.ds y.ds (i+1)=((gD x.ds y.ds i).1.set i (x.ds.getD i 0 - t),0):=by
   intro t ht hlt;refine ⟨?_,by simp only[gD,<- ht,aj hlt]⟩;rw[jn (x:=((x.ds.getD i 0:Nat):Int)+0) (by omega) (by omega),jn (by omega) (by omega),zx (by omega) (by omega)];omega
  by_cases h:(i:Int) < (y.ds.length:Int)
  ·rw[an h,ma (by omega:i < y.ds.length)];simp only[aa,gz,dg,lR,e1,e2,e3,kQ,bg,az]
   by_cases h3:x.ds.getD i 0 < (gD x.ds y.ds i).2+y.ds.getD i 0
   ·obtain ⟨b1,b2⟩:=big _ rfl h3;rw[an (by omega),s1];simp only[aa,kQ,pv,lR,b1,hw];rw[fU (by omega),aa,BE (by omega)];rw[b2] at ih;exact ih
   ·obtain ⟨b1,b2⟩:=small _ rfl h3;rw[aj (by omega),s0];simp only[aa,kQ,pv,lR,b1,hw];rw[fU (by omega),aa,BE (by omega)];rw[b2] at ih;exact ih
  ·rw[aj h];have h0:=ym h;simp only[aa,gz,dg,lR,e1,bg,az]
   by_cases h3:x.ds.getD i 0 < (gD x.ds y.ds i).2
   ·obtain ⟨b1,b2⟩:=big (gD x.ds y.ds i).2 (by omega) h3;rw[an (by omega),s1];simp only[aa,kQ,pv,lR,b1,hw];rw[fU (by omega),aa,BE (by omega)];rw[b2] at ih;exact ih
   ·obtain ⟨b1,b2⟩:=small (gD x.ds y.ds i).2 (by omega) h3;rw[aj (by omega),s0];simp only[aa,kQ,pv,lR,b1,hw];rw[fU (by omega),aa,BE (by omega)];rw[b2] at ih;exact ih
end Go.Ab
namespace Go.Ab
def iw (a:List Nat) (d:Nat):Nat->List Nat×Nat
 | 0=>(List.replicate a.length 0,0)
 | k+1=>((iw a d k).1.set (a.length - 1 - k) (((iw a d k).2 * 4294967296+a.getD (a.length - 1 - k) 0) / d),((iw a d k).2 * 4294967296+a.getD (a.length - 1 - k) 0) % d)
theorem xf (a:List Nat) (d:Nat):∀ k,(iw a d k).1.length=a.length
 | 0=>by simp[iw]
 | k+1=>by simp[iw,xf a d k]
theorem Jb {a:List Nat} {d:Nat} (hd:0 < d):∀ k,(iw a d k).2 < d
 | 0=>hd
 | k+1=>kf _ hd
theorem OY {a:List Nat} {d:Nat} (ha:Dg a) (hd:0 < d) (k i:Nat):((iw a d k).2 * 4294967296+a.getD i 0) / d < 4294967296:=by
 have h1:=Jb (a:=a) hd k;have h2:=ha i;rw[uD hd];have:((iw a d k).2+1) * 4294967296<=d * 4294967296:=iO _ h1;rw[cP 4294967296 d];omega
theorem BD {a:List Nat} {d:Nat} (ha:Dg a) (hd:0 < d):∀ k,Dg (iw a d k).1
 | 0=>ye _
 | k+1=>(BD ha hd k).set _ _ (OY ha hd k _)
theorem YJ (a:List Nat) (d j:Nat):∀ k,j+k < a.length->(iw a d k).1.getD j 0=0
 | 0,_=>HK _ _
 | k+1,h=>by
  rw[iw];simp only[];rw[uS (by omega)];exact YJ a d j k (by omega)
theorem YK {a:List Nat} {d:Nat} (hd:0 < d):∀ k,k<=a.length->val (iw a d k).1 * d+4294967296 ^ (a.length - k) * (iw a d k).2+vs a (a.length - k)=val a
 | 0,_=>by simp[iw,Jv,jh]
 | k+1,h=>by
  have ih:=YK (a:=a) hd k (by omega);obtain ⟨i,hi⟩:∃ i,i=a.length - 1 - k:=⟨_,rfl⟩;have e1:a.length - k=i+1:=by omega
  have e2:a.length - (k+1)=i:=by omega
  have hk:=YJ a d i k (by omega);have hl:=xf a d k;rw[e1,jL,jO] at ih;rw[e2,iw,<- hi];generalize iw a d k=t at *;simp only[];have h1:=EN t.1 i ((t.2 * 4294967296+a.getD i 0) / d) (by omega);rw[hk,n7,ke] at h1;rw[h1,gX,fB,mo (val t.1 * d),<- gm,cP (_ / _) d,vR];rw[<- ih,gm];have:4294967296 ^ i * (t.2 * 4294967296)=4294967296 ^ i * 4294967296 * t.2:=by rw[cP t.2,fB]
  omega
def Jc (a:List Nat) (d:Nat):List Nat:=tr (iw a d a.length).1
theorem YL {a:List Nat} {d:Nat} (ha:Dg a) (hd:0 < d):Jc a d=aB (val a / d)/\(iw a d a.length).2=val a % d:=by
 have h:=YK (a:=a) hd a.length (aR _);have h2:=Jb (a:=a) hd a.length;simp only[pP,Nat.pow_zero,qW,rI,ke] at h;rw[Jc,kV (BD ha hd _)]
 have e:val a / d=val (iw a d a.length).1/\val a % d=(iw a d a.length).2:=by
  rw[<- h]
  constructor
  ·rw[cP,Nat.mul_add_div hd,Nat.div_eq_of_lt h2];rfl
  ·rw[cP,Nat.mul_add_mod,kZ h2]
 exact ⟨by rw[e.1],e.2.symm⟩
def wn (u:List Nat) (j:Nat):Nat->Nat
 | 0=>0
 | i+1=>wn u j i+4294967296 ^ i * u.getD (j+i) 0
theorem ET (u:List Nat):∀ i,wn u 0 i=vs u i
 | 0=>rfl
 | i+1=>by rw[wn,ET u i,jL,bf]
theorem zw {u:List Nat} (h:Dg u) (j:Nat):∀ i,wn u j i < 4294967296 ^ i
 | 0=>by simp[wn]
 | i+1=>by
  have ih:=zw h j i;have h1:=h (j+i);rw[wn,jO];have:4294967296 ^ i * (u.getD (j+i) 0+1)<=4294967296 ^ i * 4294967296:=kE _ h1;rw[gm] at this;omega
theorem Zw {u w:List Nat} {j:Nat}:∀ i,(∀ k,k < i->u.getD (j+k) 0=w.getD (j+k) 0)->wn u j i=wn w j i
 | 0,_=>rfl
 | i+1,h=>by rw[wn,wn,Zw i (fun k hk=>h k (by omega)),h i (by omega)]
theorem um {u:List Nat} {j i p x:Nat} (h:p < j\/j+i<=p):wn (u.set p x) j i=wn u j i:=by
 apply Zw;intro k hk;exact uS (by omega)
theorem Zx (u:List Nat) (j i:Nat):∀ k,wn u j (i+k)=wn u j i+4294967296 ^ i * wn u (j+i) k
 | 0=>by simp[wn]
 | k+1=>by
  rw[<- mo,wn,Zx u j i k,wn,gm,qX,fB,mo j,mo]
theorem ES (u:List Nat) (j i:Nat):wn u j (i+1)=u.getD j 0+4294967296 * wn u (j+1) i:=by
 rw[rY i 1,Zx u j 1 i];simp[wn]
theorem PB {u:List Nat} {j:Nat}:∀ i,(∀ k,k < i->u.getD (j+k) 0=0)->wn u j i=0
 | 0,_=>rfl
 | i+1,h=>by rw[wn,PB i (fun k hk=>h k (by omega)),h i (by omega)];simp
def jz (a:List Nat) (s:Nat):Nat->List Nat
 | 0=>List.replicate (a.length+1) 0
 | i+1=>((jz a s i).set i ((jz a s i).getD i 0+a.getD i 0 * 2 ^ s % 4294967296)).set (i+1) (a.getD i 0 * 2 ^ s / 4294967296)
theorem zh (a:List Nat) (s:Nat):∀ i,(jz a s i).length=a.length+1
 | 0=>by simp[jz]
 | i+1=>by simp[jz,zh a s i]
theorem zb {s:Nat} (hs:s < 32):2 ^ s * 2 ^ (32 - s)=4294967296:=by
 rw[<- qX,show s+(32 - s)=32 by omega]
theorem ML {x s:Nat} (hx:x < 4294967296):x * 2 ^ s / 4294967296 < 2 ^ s:=by
 rw[uD (by omega)];rw[cP];exact Nat.mul_lt_mul_of_pos_left hx (uF s)
theorem Wp {x s:Nat} (hs:s < 32):x * 2 ^ s % 4294967296+2 ^ s<=4294967296:=by
 have h:=zb hs
 have:x * 2 ^ s % 4294967296=x % 2 ^ (32 - s) * 2 ^ s:=by
  rw[<- h,cP (2 ^ s) (2 ^ (32 - s)),Nat.mul_mod_mul_right]
 rw[this];have h2:x % 2 ^ (32 - s) < 2 ^ (32 - s):=kf _ (uF _);have h3:(x % 2 ^ (32 - s)+1) * 2 ^ s<=2 ^ (32 - s) * 2 ^ s:=iO _ h2;rw[cP (2 ^ (32 - s)),h,gX] at h3;omega
theorem OX {a:List Nat} {s:Nat} (ha:Dg a):∀ i,i<=a.length->(jz a s i).getD i 0 < 2 ^ s
 | 0,_=>by rw[jz,HK];exact uF s
 | i+1,h=>by
  have hl:=zh a s i;rw[jz,rm (by rw[aZ];omega)];exact ML (ha i)
theorem OW {a:List Nat} {s:Nat} (ha:Dg a) (hs:s < 32):∀ i,i<=a.length->Dg (jz a s i)
 | 0,_=>ye _
 | i+1,h=>by
  have h1:=OX (s:=s) ha i (by omega);have h2:=Wp (x:=a.getD i 0) hs;have h3:=ML (x:=a.getD i 0) (s:=s) (ha i);have h4:2 ^ s<=2 ^ 31:=pO (by omega) (by omega);exact ((OW ha hs i (by omega)).set _ _ (by omega)).set _ _ (by omega)
theorem YB {a:List Nat} {s:Nat}:∀ i,i<=a.length->wn (jz a s i) 0 (i+1)=2 ^ s * vs a i
 | 0,_=>by rw[jz,PB];rfl;intro k _;exact HK _ _
 | i+1,h=>by
  have ih:=YB (a:=a) (s:=s) i (by omega);have hl:=zh a s i;rw[wn,jz,um (by omega),bf,rm (by rw[aZ];omega),wn,um (by omega),bf,rm (by omega)];rw[wn,bf] at ih;have e:=Bu (4294967296 ^ i) 4294967296 (a.getD i 0 * 2 ^ s);rw[jL,gm (2 ^ s),<- ih,jO,Nat.mul_left_comm (2 ^ s),cP (2 ^ s),gm];omega
theorem YC {a:List Nat} {s:Nat}:val (jz a s a.length)=2 ^ s * val a:=by
 have h:=YB (a:=a) (s:=s) a.length (aR _);rw[ET,jh (by rw[zh];omega),jh (aR _)] at h;exact h
theorem qkO {g r top v1 v2 u0 lo vlo p q:Nat} (h:g * v1+r=top) (hc:r * 4294967296+u0 < g * v2) (gR:lo < p)
  (hq:q * ((v1 * 4294967296+v2) * p+vlo)<=(top * 4294967296+u0) * p+lo):q < g:=by
 apply qk;intro hn;have hg:g<=q:=vS hn;have h1:g * ((v1 * 4294967296+v2) * p+vlo)<=q * ((v1 * 4294967296+v2) * p+vlo):=iO _ hg
 have h2:(top * 4294967296+u0+1) * p<=g * (v1 * 4294967296+v2) * p:=by
  apply iO;rw[gm,<- fB,<- h];omega
 rw[gm,<- fB] at h1;rw[gX _ 1,qW] at h2;omega
theorem Uw {g r top v1 v2 u0 lo vlo p U V:Nat} (h:g * v1+r=top) (hc:g * v2<=r * 4294967296+u0) (hg:g < 4294967296) (hv:vlo < p) (kr:0 < v1)
  (hU:U=(top * 4294967296+u0) * p+lo) (hV:V=(v1 * 4294967296+v2) * p+vlo):g * V < U+V:=by
 have h2:g * (v1 * 4294967296+v2) * p<=(top * 4294967296+u0) * p:=by
  apply iO;rw[gm,<- fB,<- h];omega
 have h3:g * vlo<=4294967296 * p:=rZ (by omega) (by omega)
 have h4:g * vlo < 4294967296 * p:=by
  rcases Nat.eq_zero_or_pos g with h0 | h0
  ·subst h0;rw[xN];omega
  ·exact Nat.mul_lt_mul'' hg hv
 have h5:1 * 4294967296 * p<=v1 * 4294967296 * p:=iO _ (iO _ kr);rw[hV,gm,<- fB,gX (v1 * 4294967296)];omega
def jd (v:List Nat) (g j:Nat):Nat->List Nat->List Nat×Nat×Nat
 | 0,u=>(u,0,0)
 | i+1,u=>
  let t:=jd v g j i u
  let c:=t.2.2+g * v.getD i 0
  let y:=c % 4294967296+t.2.1
  if t.1.getD (i+j) 0 < y then (t.1.set (i+j) (t.1.getD (i+j) 0+4294967296 - y),1,c / 4294967296)
  else (t.1.set (i+j) (t.1.getD (i+j) 0 - y),0,c / 4294967296)
theorem Ee (v:List Nat) (g j:Nat) (u:List Nat):∀ i,(jd v g j i u).1.length=u.length
 | 0=>rfl
 | i+1=>by
  rw[jd];split<;>simp[Ee v g j u i]
theorem Ed (v:List Nat) (g j:Nat) (u:List Nat):∀ i,(jd v g j i u).2.1<=1
 | 0=>by simp[jd]
 | i+1=>by
  rw[jd];split<;>simp
theorem IE {v:List Nat} {g:Nat} (hv:Dg v) (hg:g < 4294967296) (j:Nat) (u:List Nat):∀ i,(jd v g j i u).2.2 < 4294967296
 | 0=>by simp[jd]
 | i+1=>by
  have ih:=IE hv hg j u i;have h4:=hv i;have h5:g * v.getD i 0<=4294967295 * 4294967295:=rZ (by omega) (by omega);rw[jd];split<;>(simp only[];omega)
theorem IF {v u:List Nat} {g:Nat} (hu:Dg u) (j:Nat):∀ i,Dg (jd v g j i u).1
 | 0=>hu
 | i+1=>by
  have ih:=IF (v:=v) (g:=g) hu j i;have hb:=Ed v g j u i;have h1:=ih (i+j);rw[jd]
  split
  ·exact ih.set _ _ (by omega)
  ·exact ih.set _ _ (by omega)
theorem N4 (v:List Nat) (g j:Nat) (u:List Nat) (k:Nat):∀ i,k < j\/i+j<=k->(jd v g j i u).1.getD k 0=u.getD k 0
 | 0,_=>rfl
 | i+1,h=>by
  have ih:=N4 v g j u k i (by omega);rw[jd];split<;>simp only[]<;>rw[uS (by omega),ih]
theorem N5 {v u:List Nat} {g:Nat} (hu:Dg u) (j:Nat):∀ i,i+j<=u.length->wn (jd v g j i u).1 j i+g * vs v i=wn u j i+4294967296 ^ i * ((jd v g j i u).2.2+(jd v g j i u).2.1)
 | 0,_=>by simp[jd,wn,rI]
 | i+1,h=>by
  have ih:=N5 (v:=v) (g:=g) hu j i (by omega);have hk:=N4 v g j u (i+j) i (by omega);have hl:=Ee v g j u i;have hb:=Ed v g j u i;have hd:=hu (i+j);rw[wn.eq_2 u,jL,jO,gm,<- fB g,cP g (4294967296 ^ i),fB];rw[jd];generalize jd v g j i u=t at *;obtain ⟨t,b,c⟩:=t;simp only[] at *;rw[hk,rY j i];have e:=Bu (4294967296 ^ i) 4294967296 (c+g * v.getD i 0);generalize hc:c+g * v.getD i 0=C at *;rw[<- hc,gm,hc] at e;rw[gm] at ih
  split
  ·rename_i hlt;simp only[];rw[wn,um (by omega),rY j i,rm (by omega)];have e2:=XU (4294967296 ^ i) 4294967296 (u.getD (i+j) 0) (C % 4294967296+b) (by omega);rw[gm _ (C % 4294967296)] at e2;rw[gm _ (C / 4294967296),mq];omega
  ·rename_i hlt;simp only[];rw[wn,um (by omega),rY j i,rm (by omega)];have e2:=IW (4294967296 ^ i) (u.getD (i+j) 0) (C % 4294967296+b) (by omega);rw[gm _ (C % 4294967296)] at e2;rw[ke];omega
def kg (v:List Nat) (j:Nat):Nat->List Nat->List Nat×Nat
 | 0,u=>(u,0)
 | i+1,u=>
  let t:=kg v j i u
  let c:=t.2+(t.1.getD (i+j) 0+v.getD i 0)
  (t.1.set (i+j) (c % 4294967296),c / 4294967296)
theorem CU (v:List Nat) (j:Nat) (u:List Nat):∀ i,(kg v j i u).1.length=u.length
 | 0=>rfl
 | i+1=>by simp[kg,CU v j u i]
theorem Hf {v u:List Nat} (hv:Dg v) (hu:Dg u) (j:Nat):∀ i,Dg (kg v j i u).1/\(kg v j i u).2<=1
 | 0=>⟨hu,by simp[kg]⟩
 | i+1=>by
  obtain ⟨h1,h2⟩:=Hf hv hu j i;have h3:=h1 (i+j);have h4:=hv i;refine ⟨h1.set _ _ (kf _ (by omega)),?_⟩;simp only[kg];omega
theorem Lo (v:List Nat) (j:Nat) (u:List Nat) (k:Nat):∀ i,k < j\/i+j<=k->(kg v j i u).1.getD k 0=u.getD k 0
 | 0,_=>rfl
 | i+1,h=>by
  have ih:=Lo v j u k i (by omega);rw[kg];simp only[];rw[uS (by omega),ih]
theorem SP (v:List Nat) (j:Nat) (u:List Nat):∀ i,i+j<=u.length->wn (kg v j i u).1 j i+4294967296 ^ i * (kg v j i u).2=wn u j i+vs v i
 | 0,_=>by simp[kg,wn,rI]
 | i+1,h=>by
  have ih:=SP v j u i (by omega);have hk:=Lo v j u (i+j) i (by omega);have hl:=CU v j u i;rw[wn.eq_2 u,jL,jO];rw[kg];simp only[];generalize kg v j i u=t at *;rw[wn,um (by omega),rY j i,rm (by omega),hk];have e:=Bu (4294967296 ^ i) 4294967296 (t.2+(u.getD (i+j) 0+v.getD i 0));generalize hc:t.2+(u.getD (i+j) 0+v.getD i 0)=C at *;rw[<- hc,gm,gm,hc] at e;omega
def yU (v:List Nat) (n j g:Nat) (u:List Nat):List Nat×Nat:=
 let t:=jd v g j n u
 let y:=t.2.2+t.2.1
 if t.1.getD (j+n) 0 < y then
  let w:=kg v j n (t.1.set (j+n) (t.1.getD (j+n) 0+4294967296 - y))
  (w.1.set (j+n) ((w.1.getD (j+n) 0+w.2) % 4294967296),g - 1)
 else (t.1.set (j+n) (t.1.getD (j+n) 0 - y),g)
theorem wm {q r U V:Nat} (h:U=q * V+r) (hr:r < V):U / V=q/\U % V=r:=by
 subst h
 constructor
 ·rw[cP,Nat.mul_add_div (by omega),Nat.div_eq_of_lt hr];rfl
 ·rw[cP,Nat.mul_add_mod,kZ hr]
theorem qmc {v u:List Nat} {n j g:Nat} (hv:Dg v) (hu:Dg u) (hn:v.length=n) (hL:j+n < u.length) (hg:g < 4294967296) (Dt:0 < val v)
  (h1:wn u j (n+1) / val v<=g) (h2:g * val v < wn u j (n+1)+val v) :
  Dg (yU v n j g u).1/\(yU v n j g u).1.length=u.length/\(∀ k,k < j\/j+n < k->(yU v n j g u).1.getD k 0=u.getD k 0) /\
  wn (yU v n j g u).1 j (n+1)=wn u j (n+1) % val v/\(yU v n j g u).2=wn u j (n+1) / val v:=by
 have hV:vs v n=val v:=jh (by omega);have hVP:val v < 4294967296 ^ n:=by rw[<- hn];exact mO hv
 have hw:=N5 (v:=v) (g:=g) hu j n (by omega);have hk:∀ k,k < j\/j+n<=k->(jd v g j n u).1.getD k 0=u.getD k 0:=fun k h=>N4 v g j u k n (by omega);have hl:=Ee v g j u n;have hb:=Ed v g j u n;have hc:=IE hv hg j u n;have hd:=IF (v:=v) (g:=g) hu j n;have yt:=zw hd j n;have ht:=hk (j+n) (by omega);have A2:=hu (j+n);have hUp:=zw hu j n;have hUe:wn u j (n+1)=wn u j n+4294967296 ^ n * u.getD (j+n) 0:=rfl;rw[hUe] at h1 h2 ⊢;rw[hV] at hw;unfold yU;simp only[];generalize jd v g j n u=t at *;obtain ⟨t,b,c⟩:=t;simp only[] at *;rw[ht]
 have hU1:wn u j n+4294967296 ^ n * u.getD (j+n) 0 < (g+1) * val v:=by
  have:=Nat.lt_succ_of_le h1
  rwa [uD Dt] at this
 rw[gX,qW] at hU1;generalize u.getD (j+n) 0=top at *
 by_cases h:top < c+b
 ·rw[an h];simp only[];have Dy:Dg (t.set (j+n) (top+4294967296 - (c+b))):=hd.set _ _ (by omega);have ha:=SP v j (t.set (j+n) (top+4294967296 - (c+b))) n (by rw[aZ];omega);have UG:∀ k,k < j\/j+n<=k->(kg v j n (t.set (j+n) (top+4294967296 - (c+b)))).1.getD k 0=(t.set (j+n) (top+4294967296 - (c+b))).getD k 0:=fun k h=>Lo v j _ k n (by omega);obtain ⟨had,hac⟩:=Hf hv Dy j n;have fC:=CU v j (t.set (j+n) (top+4294967296 - (c+b))) n;rw[um (by omega),hV] at ha;have mI:=UG (j+n) (by omega);rw[rm (by omega)] at mI;have Il:=zw had j n
  have tS:∀ k,k < j\/j+n < k->(kg v j n (t.set (j+n) (top+4294967296 - (c+b)))).1.getD k 0=u.getD k 0:=by
   intro k bL;rw[UG k (by omega),uS (by omega),hk k (by omega)]
  rw[aZ] at fC;generalize kg v j n (t.set (j+n) (top+4294967296 - (c+b)))=w at *;obtain ⟨w,x⟩:=w;simp only[] at *;rw[mI]
  have U1:wn u j n+4294967296 ^ n * top < g * val v:=by
   have:4294967296 ^ n * (top+1)<=4294967296 ^ n * (c+b):=kE _ h;rw[gm] at this;omega
  have uW:1<=g:=by
   apply oJ;intro e;rw[e,xN] at U1;omega
  obtain ⟨g',hg'⟩:∃ g',g=g'+1:=⟨g - 1,by omega⟩;subst hg';rw[gX,qW] at U1 h2 hw;obtain ⟨r,hr⟩:∃ r,wn u j n+4294967296 ^ n * top=g' * val v+r:=⟨_,(Nat.add_sub_cancel' (by omega)).symm⟩;obtain ⟨hq,hm⟩:=wm hr (by omega)
  have key:wn w j n+4294967296 ^ n * x=r+4294967296 ^ n * (c+b - top):=by
   have:=IW (4294967296 ^ n) (c+b) top (by omega);omega
  have hx:x=c+b - top/\wn w j n=r:=by
   have h3:=wm (q:=x) (r:=wn w j n) (V:=4294967296 ^ n) (by rw[cP x,rY]) Il;have h4:=wm (q:=c+b - top) (r:=r) (U:=wn w j n+4294967296 ^ n * x) (V:=4294967296 ^ n) (by rw[key,cP (c+b - top),rY]) (by omega);exact ⟨h3.1.symm.trans h4.1,h3.2.symm.trans h4.2⟩
  refine ⟨had.set _ _ (kf _ (by omega)),by rw[aZ,fC,hl],?_,?_,by rw[hq];rfl⟩
  ·intro k bL;rw[uS (by omega)];exact tS k bL
  ·rw[wn,um (by omega),rm (by omega),hx.2,hm,hx.1];rw[show (top+4294967296 - (c+b)+(c+b - top)) % 4294967296=0 by omega]
   rfl
 ·rw[aj h];simp only[];have e:=IW (4294967296 ^ n) top (c+b) (by omega);have hr:wn u j n+4294967296 ^ n * top=g * val v+(wn t j n+4294967296 ^ n * (top - (c+b))):=by omega
  obtain ⟨hq,hm⟩:=wm hr (by omega)
  refine ⟨hd.set _ _ (by omega),by rw[aZ,hl],?_,?_,by rw[hq]⟩
  ·intro k bL;rw[uS (by omega)];exact hk k (by omega)
  ·rw[wn,um (by omega),rm (by omega),hm]
structure KInv (v u0:List Nat) (n m j:Nat) (u q:List Nat):Prop where
 du:Dg u
 lu:u.length=m+n
 dq:Dg q
 lq:q.length=m
 hi:∀ k,j+n<=k->u.getD k 0=0
 lo:∀ k,k < j->u.getD k 0=u0.getD k 0
 lt:wn u j n < val v
 eq:wn q j (m - j) * val v+wn u j n=wn u0 j (m+n - j)
theorem KInv.step {v u0 u q:List Nat} {n m j:Nat} (hv:Dg v) (hn:v.length=n) (hj:j < m) (h:KInv v u0 n m (j+1) u q) {u':List Nat} {d:Nat}
  (du:Dg u') (lu:u'.length=u.length) (hk:∀ k,k < j\/j+n < k->u'.getD k 0=u.getD k 0)
  (hw:wn u' j (n+1)=wn u j (n+1) % val v) (hd:d=wn u j (n+1) / val v) (Dt:0 < val v):KInv v u0 n m j u' (q.set j d):=by
 have hU:wn u j (n+1)=u.getD j 0+4294967296 * wn u (j+1) n:=ES u j n;have hlt:wn u j (n+1) % val v < val v:=kf _ Dt;have hVP:val v < 4294967296 ^ n:=by rw[<- hn];exact mO hv
 have mI:u'.getD (j+n) 0=0:=by
  rw[wn] at hw;apply qk;intro hne;have:4294967296 ^ n * 1<=4294967296 ^ n * u'.getD (j+n) 0:=kE _ (by omega);omega
 have Il:wn u' j n=wn u j (n+1) % val v:=by
  rw[wn,mI,n7,ke] at hw;exact hw
 have yu:d < 4294967296:=by
  rw[hd,uD Dt,hU];have h1:=h.lt;have h2:=h.du j;omega
 refine ⟨du,by rw[lu,h.lu],h.dq.set _ _ yu,by rw[aZ,h.lq],?_,?_,by rw[Il];exact hlt,?_⟩
 ·intro k bL
  by_cases e:k=j+n
  ·rw[e,mI]
  ·rw[hk k (by omega)];exact h.hi k (by omega)
 ·intro k bL;rw[hk k (by omega)];exact h.lo k (by omega)
 ·have e:=h.eq;obtain ⟨r,hr⟩:∃ r,m - j=r+1:=⟨m - j - 1,by omega⟩;rw[hr,ES,rm (by rw[h.lq];exact hj),um (by omega),Il];rw[show m+n - j=(m+n - (j+1))+1 by omega,ES u0,<- h.lo j (by omega),<- e,show m - (j+1)=r by omega];have h2:wn u j (n+1)=val v * d+wn u j (n+1) % val v:=by rw[hd,vR]
  rw[gX,gm,cP d,fB];omega
def kW (u:List Nat) (s:Nat):Nat->List Nat
 | 0=>[]
 | i+1=>kW u s i++[u.getD i 0 / 2 ^ s+u.getD (i+1) 0 * 2 ^ (32 - s) % 4294967296]
theorem EF (u:List Nat) (s:Nat):∀ i,(kW u s i).length=i
 | 0=>rfl
 | i+1=>by simp[kW,EF u s i]
theorem Pj {x s:Nat} (hs:s < 32):x * 2 ^ (32 - s) % 4294967296=x % 2 ^ s * 2 ^ (32 - s):=by
 rw[<- zb hs,Nat.mul_mod_mul_right]
theorem Zm {x s:Nat} (hs:s < 32) (hx:x < 4294967296):x / 2 ^ s < 2 ^ (32 - s):=by
 rw[uD (uF s),cP,zb hs];exact hx
theorem Zl {x y s:Nat} (hs:s < 32) (hx:x < 4294967296):x / 2 ^ s+y * 2 ^ (32 - s) % 4294967296 < 4294967296:=by
 have h1:=Zm hs hx;have h2:y % 2 ^ s < 2 ^ s:=kf _ (uF s);have h3:(y % 2 ^ s+1) * 2 ^ (32 - s)<=2 ^ s * 2 ^ (32 - s):=iO _ h2;rw[zb hs,gX] at h3;rw[Pj hs];omega
theorem Js {u:List Nat} {s:Nat} (hu:Dg u) (hs:s < 32):∀ i,Dg (kW u s i)
 | 0=>yd
 | i+1=>yc (Js hu hs i) (uQ (Zl hs (hu i)))
theorem Zk {u:List Nat} {s:Nat} (hs:s < 32):∀ i,2 ^ s * val (kW u s i)+u.getD 0 0 % 2 ^ s=wn u 0 i+4294967296 ^ i * (u.getD i 0 % 2 ^ s)
 | 0=>by simp[kW,val,wn]
 | i+1=>by
  have ih:=Zk (u:=u) hs i;rw[kW,xj,EF,val,val,n7,ke,Pj hs,gm,wn,bf,jO];have e1:4294967296 ^ i * u.getD i 0=4294967296 ^ i * (2 ^ s * (u.getD i 0 / 2 ^ s)+u.getD i 0 % 2 ^ s):=by rw[vR]
  have e2:2 ^ s * (4294967296 ^ i * (u.getD i 0 / 2 ^ s+u.getD (i+1) 0 % 2 ^ s * 2 ^ (32 - s)))=4294967296 ^ i * (2 ^ s * (u.getD i 0 / 2 ^ s))+4294967296 ^ i * 4294967296 * (u.getD (i+1) 0 % 2 ^ s):=by
   rw[<- zb hs];generalize (2 ^ s * 2 ^ (32 - s)) ^ i=p;generalize u.getD (i+1) 0 % 2 ^ s=y;generalize u.getD i 0 / 2 ^ s=z;generalize 2 ^ (32 - s)=b;generalize 2 ^ s=a;simp only[gm]
   congr 1
   ·simp only[Nat.mul_left_comm,cP]
   ·simp only[Nat.mul_left_comm,cP]
  rw[e2,e1,gm];omega
theorem KInv.done {v u0 u q a b:List Nat} {n m s:Nat} (hs:s < 32) (hu:u0.length=m+n) (h0:val u0=2 ^ s * val a) (hv:val v=2 ^ s * val b) (h:KInv v u0 n m 0 u q) :
  tr q=aB (val a / val b)/\tr (kW u s n)=aB (val a % val b):=by
 have hp:=uF s;have e:=h.eq;have hlt:=h.lt;rw[Nat.sub_zero,Nat.sub_zero,ET u0,jh (by omega),ET q,jh (by rw[h.lq];omega),h0] at e
 have hd:2 ^ s * val a / (2 ^ s * val b)=val q/\2 ^ s * val a % (2 ^ s * val b)=wn u 0 n:=by
  rw[<- hv];exact wm e.symm hlt
 rw[Nat.mul_div_mul_left _ _ hp] at hd;rw[Nat.mul_mod_mul_left] at hd;rw[kV h.dq,kV (Js h.du hs n),hd.1];refine ⟨rfl,?_⟩;have hr:=Zk (u:=u) hs n;have mI:=h.hi n (by omega);rw[mI,Nat.zero_mod,n7,ke,<- hd.2] at hr;have hm:u.getD 0 0 % 2 ^ s < 2 ^ s:=kf _ hp;have:=(wm (q:=val a % val b) (r:=0) (U:=2 ^ s * (val a % val b)) (V:=2 ^ s) (by rw[cP];rfl) hp).1;have h3:=(wm (q:=val (kW u s n)) (r:=u.getD 0 0 % 2 ^ s) (U:=2 ^ s * (val a % val b)) (V:=2 ^ s) (by rw[<- hr,cP]) hm).1;rw[<- this,h3]
end Go.Ab
namespace Go.Ab
open Go.Proofs.Tryz
structure NOk (x:NV):Prop where
 dg:Dg x.ds
 len:x.ds.length < 2 ^ 40
 nil:x.z=true->x.ds=[]
def NV.v (x:NV):Nat:=val x.ds
theorem NOk.fr {x:NV} (h:NOk x):NOk x.fr:=⟨h.dg,h.len,h.nil⟩
theorem ud {o:Own} {n:Nat} (h:(aB n).length < 2 ^ 40):NOk ⟨false,o,aB n⟩:=⟨gd n,h,by simp⟩
theorem tq {x:NV} (h:NOk x):AP ae 164 [x.av]=some (NV.av ⟨x.z,.no,aB x.v⟩):=by
 rw[qZ x (by have:=h.len;omega),kV h.dg];rfl
theorem vW {x y:NV} (hx:NOk x) (hy:NOk y):AP ae 131 [x.av,y.av]=some (.int .i64 (gE x.v y.v)):=by
 rw[qe4 x y (by have:=hx.len;omega) (by have:=hy.len;omega),qjN hx.dg hy.dg];rfl
theorem qf4 {x y:NV} (hx:NOk x) (hy:NOk y):AP ae 130 [x.av,y.av]=some (NV.av ⟨false,.no,aB (x.v+y.v)⟩):=by
 rw[qe3 x y hx.len hy.len hx.dg hy.dg,qg0 hx.dg hy.dg];rfl
theorem xT {x y:NV} (hx:NOk x) (hy:NOk y):AP ae 127 [x.av,y.av]=some (NV.av ⟨false,.no,aB (x.v * y.v)⟩):=by
 rw[qe2 x y hx.len hy.len hx.dg hy.dg,qmT hx.dg hy.dg];rfl
def qF (n:Nat):Own:=if n=0 then .full else .no
theorem TB (z:Bool) (o:Own) (n:Nat):tC ⟨z,o,aB n⟩=⟨z,qF n,aB n⟩:=by
 unfold tC qF;simp only[EM]
theorem R8 {z:Bool} {o:Own} {n:Nat} (h:NOk ⟨z,o,aB n⟩):AP ae 163 [NV.av ⟨z,o,aB n⟩]=some (NV.av ⟨z,qF n,aB n⟩):=by
 rw[Ru _ h.nil h.len,TB]
theorem qm9 {n:Nat} (h:n < 18446744073709551616):Oq n=aB n:=by
 rw[Oq,kV (mD.2 ⟨kf _ (by omega),uQ (by omega)⟩)];congr 1;simp only[val];omega
theorem Li {n:Nat} (h:n < 18446744073709551616):AP ae 123 [.int .u64 n]=some (NV.av ⟨false,qF n,aB n⟩):=by
 rw[qe1 n h,qm9 h,TB]
def pT (ds:List Nat):Bool:=decide (ds=aB (val ds))
theorem qpk {ds:List Nat} (h:ds.length≠0) (h':ds.getD (ds.length - 1) 0≠0):tr ds=ds:=by
 obtain ⟨n,hn⟩:∃ n,ds.length=n+1:=⟨ds.length - 1,by omega⟩;rw[hn,pn] at h';rw[tr,hn,lP,aj h',<- hn,List.take_length]
theorem ON {ds:List Nat} (h:Dg ds):w8 ds=pT ds:=by
 unfold w8 pT;rw[<- kV h]
 by_cases h0:ds.length=0
 ·have:ds=[]:=List.length_eq_zero_iff.1 h0;subst this
  rfl
 ·by_cases h1:ds.getD (ds.length - 1) 0=0
  ·have hlt:(tr ds).length < ds.length:=by
    obtain ⟨n,hn⟩:∃ n,ds.length=n+1:=⟨ds.length - 1,by omega⟩;rw[hn,pn] at h1;have:=EA ds n;rw[tr,ji,hn,lP,an h1];omega
   have hne:¬ ds=tr ds:=fun e=>by rw[<- e] at hlt;omega
   rw[dk h0,dk hne,h1];rfl
  ·have:=qpk h0 h1;rw[eT this.symm,eT h1,Bool.or_true]
theorem Sd {x:NV} (h:NOk x):AP ae 181 [x.av]=some (.bool (pT x.ds)):=by
 rw[qe5 x h.len,ON h.dg]
def s8 (n:Nat):AV:=if n < 18446744073709551616 then .tup [.int .u64 n,.bool true] else .tup [.int .u64 0,.bool false]
theorem YQ (n:Nat):s7 (aB n)=s8 n:=by
 have hv:=gj n;have hd:=gd n;unfold s8;generalize he:aB n=l at *
 match l,hv,hd with
 | [],hv,_=>
  simp only[val] at hv;subst hv
  rfl
 | [d],hv,hd=>
  have:=(mD.1 hd).1;simp only[val] at hv;rw[an (by omega),s7,<- hv]
  rfl
 | [d,e],hv,hd=>
  have:=(mD.1 hd).1;have:=(mD.1 (mD.1 hd).2).1;simp only[val] at hv;rw[an (by omega),s7,<- hv];congr 4;omega
 | d::e::f::l,hv,hd=>
  have hl:2 < (aB n).length:=by rw[he];simp
  have:=Hx hl
  rw[aj (by omega),s7]
  ·intro h;cases h
  ·intro x h;cases h
  ·intro x y h;cases h
theorem qgd {x:NV} (h:NOk x):AP ae 182 [x.av]=some (s8 x.v):=by
 rw[qe6 x h.len h.dg,kV h.dg,YQ];rfl
theorem qu (sh:Sh) (z:Bool) (o:Own) (es:List AV):∀ m k,bH m (k+1) (.lst sh z o es)=some (.lst sh z o.fr es,[]):=by
 intro m k;cases o<;>rfl
theorem jV (k:IntKind) (n:Int):∀ m j,bH m (j+1) (.int k n)=some (.int k n,[]):=fun _ _=>rfl
theorem Uj (b:Bool):∀ m j,bH m (j+1) (.bool b)=some (.bool b,[]):=fun _ _=>rfl
theorem wz {a a' b b':AV} (ha:∀ m k,bH m (k+1) a=some (a',[])) (hb:∀ m k,bH m (k+1) b=some (b',[])):Fz (.tup [a,b]) (.tup [a',b']):=by
 intro m;show (fD (bH m 8) [a,b]).map _=_;simp[fD,ha m 7,hb m 7]
theorem wA {a a' b b' c c':AV} (ha:∀ m k,bH m (k+1) a=some (a',[])) (hb:∀ m k,bH m (k+1) b=some (b',[])) (hc:∀ m k,bH m (k+1) c=some (c',[])):Fz (.tup [a,b,c]) (.tup [a',b',c']):=by
 intro m;show (fD (bH m 8) [a,b,c]).map _=_;simp[fD,ha m 7,hb m 7,hc m 7]
theorem cW {C:Cfg} {f:Nat} {args:List AV} {m:af} (v v':AV) (hf:Fz v v') (hv:iQ v'=true) (h:AC C f args []=some (v,m)):AP C f args=some v':=
 iH h (hf m) (by rw[hv,Bool.or_true])
theorem qv (x:NV):∀ m k,bH m (k+1) x.av=some (x.fr.av,[]):=qu _ _ _ _
theorem AA:∀ m k,bH m (k+1) au=some (au,[]):=qu _ _ _ _
def Bm:AV:=au
def O7 (x y:NV):AV:=if x.v < y.v then .tup [Bm,.int .i64 1] else .tup [NV.av ⟨false,.no,aB (x.v - y.v)⟩,.int .i64 0]
theorem R5 {x y:NV} (hx:NOk x) (hy:NOk y):AP ae 132 [x.av,y.av]=some (O7 x y):=by
 have ic:=BJ x.ds;have lx:=hx.len;have e1:=tq hx.fr;have e2:=tq hy.fr;rw[show x.fr.v=x.v from rfl] at e1;rw[show y.fr.v=y.v from rfl] at e2;have rC:(aB x.v).length < 2 ^ 40:=by rw[NV.v,<- kV hx.dg];omega
 unfold O7
 by_cases h:x.v < y.v
 ·rw[an h];refine cW _ _ (wz AA (jV _ _)) rfl (m:=[]) ?_;rw[RI,fP (cu x) (cu y),vW hx.fr hy.fr];simp only[aQ,aa,bg,az,gE];rw[show x.fr.v=x.v from rfl,show y.fr.v=y.v from rfl,an h,an (by omega)]
 ·rw[aj h];have key:=qoS hx.dg hy.dg (vS h);rw[kV hx.dg,kV hy.dg,Jl] at key;refine cW _ _ (wz (qv ⟨false,.no,aB (x.v - y.v)⟩) (jV _ _)) rfl (m:=[none]) ?_;rw[RI,fP (cu x) (cu y),vW hx.fr hy.fr];simp only[aQ,aa,bg,az,gE];rw[show x.fr.v=x.v from rfl,show y.fr.v=y.v from rfl,aj h,aj (by split<;>omega),cw (cu x),e1];simp only[aQ,aa,cw (cu y),e2,gZ];rw[wX (by omega) (by omega)];simp only[aa];have:=qeS ⟨x.z,.no,aB x.v⟩ ⟨y.z,.no,aB y.v⟩ [] (JQ (aF ae.P f132.results.toList)) rC (gd _) (gd _) (aB x.v).length 0 (by simp);refine this.trans ?_;rw[qbq];have hm:(nj [] (gD (aB x.v) (aB y.v) (aB x.v).length).1)[0]?=some (oc (gD (aB x.v) (aB y.v) (aB x.v).length).1):=rfl;have hp:=w0 (cp:=AP ae) (g:=164) hm;rw[BH] at hp;rw[show ([]:af).length=0 from rfl,hp,tq ⟨BG (gd _) (gd _) _,by simp only[BH];exact rC,by simp⟩];simp only[aQ,aa,NV.v];rw[kV (BG (gd _) (gd _) _)] at key;rw[key]
  rfl
theorem qeW (x:NV) (d:Nat) (m:af) (K:KT) (hl:x.ds.length < 2 ^ 40) (dx:Dg x.ds) (hd:0 < d) (kI:d < 4294967296):∀ j k:Nat,k+j=x.ds.length ->
  Gh x.av (dg d) (.arr m.length 0 x.ds.length none) (.int .u64 (iw x.ds d k).2) (.int .i64 ((j:Int) - 1)) (m++[oc (iw x.ds d k).1]) K
   = K (.exit 0) (KS (.arr m.length 0 x.ds.length none) (.int .u64 (iw x.ds d x.ds.length).2) (m++[oc (iw x.ds d x.ds.length).1])):=by
 intro j
 induction j with
 | zero=>
  intro k hk;have:k=x.ds.length:=by omega
  subst this;rw[QP];simp[kF,aw]
 | succ j ih=>
  intro k hk;have ih:=ih (k+1) (by omega);have hr:=Jb (a:=x.ds) hd k;have hq:=OY (a:=x.ds) dx hd k j;have hlen:=xf x.ds d k;have hj:=dx j;have ej:x.ds.length - 1 - k=j:=by omega
  rw[QP,show ((j+1:Nat):Int) - 1=(j:Nat) by omega];simp only[iw,ej] at ih;generalize iw x.ds d k=t at *;simp (disch:=omega) only[Eh,aa,aw,EE,ma,kA,my,ED,zn,BK,mz];rw[fU (by omega),aa,kZ hq,pa (zZ ..) (by omega)];simp (disch:=omega) only[aa,tY];rw[tm _ _ (aR _)];simp only[pP,cD];exact ih
theorem qgg {x:NV} {d:Nat} (hx:NOk x) (hd:0 < d) (kI:d < 4294967296):AP ae 202 [x.av,dg d]=some (.tup [NV.av ⟨false,.no,aB (x.v / d)⟩,dg (x.v % d)]):=by
 have lx:=hx.len;obtain ⟨k1,k2⟩:=YL hx.dg hd;have hlt:val x.ds % d < d:=kf _ hd;refine cW _ _ (wz (qv ⟨false,.no,aB (x.v / d)⟩) (jV _ _)) rfl (m:=[none]) ?_;rw[qfV];simp only[gZ,aa];rw[wX (by omega) (by omega)];simp only[aa];rw[tY (by omega)];simp only[aa];have:=qeW x d [] (Ka (aF ae.P f202.results.toList)) lx hx.dg hd kI x.ds.length 0 (by omega);refine this.trans ?_;rw[qdl];have hm:(([]:af)++[oc (iw x.ds d x.ds.length).1])[0]?=some (oc (iw x.ds d x.ds.length).1):=rfl;have hp:=w0 (cp:=AP ae) (g:=164) hm;rw[xf] at hp;rw[Jc,kV (BD hx.dg hd _)] at k1;rw[show ([]:af).length=0 from rfl,hp,tq ⟨BD hx.dg hd _,by simp only[xf];exact lx,by simp⟩,k2];simp only[aQ,aa,NV.v,mz];rw[k1,kZ (Nat.lt_trans hlt kI)]
 rfl
theorem qeX (x:NV) (s:Nat) (m:af) (K:KT) (hl:x.ds.length < 2 ^ 40) (dx:Dg x.ds) (hs:s < 32):∀ j i:Nat,i+j=x.ds.length ->
  Gi (.int .u64 s) (.arr m.length 0 (x.ds.length+1) none) x.av (.int .i64 x.ds.length) (.int .i64 i) (m++[oc (jz x.ds s i)]) K
   = K (.exit 0) (KU (.arr m.length 0 (x.ds.length+1) none) (m++[oc (jz x.ds s x.ds.length)])):=by
 intro j
 induction j with
 | zero=>
  intro i hi;have:i=x.ds.length:=by omega
  subst this;rw[QQ];simp[bg,aw]
 | succ j ih=>
  intro i hi;have ih:=ih (i+1) (by omega);have hlen:=zh x.ds s i;have hd:=dx i;have h1:=OX (s:=s) dx i (by omega);have h2:=Wp (x:=x.ds.getD i 0) hs;have h3:=ML (x:=x.ds.getD i 0) (s:=s) hd;have h4:2 ^ s<=2 ^ 31:=pO (by omega) (by omega)
  have h6:x.ds.getD i 0 * 2 ^ s % 4294967296 % 2 ^ s=0:=by
   rw[<- zb hs,cP (2 ^ s),Nat.mul_mod_mul_right,Nat.mul_mod_left]
  rw[QQ];simp only[jz] at ih;generalize jz x.ds s i=t at *;simp (disch:=omega) only[dp,aa,az,an,ma,kA,fU];rw[sS (zZ ..) (by omega)];simp only[dg,aa];rw[Zh hs hd,aa,Zg h1 h6 (by omega),aa,pa (zZ ..) (by omega)];simp (disch:=omega) only[aa,cG,C7,qpu hs,Jq,mz,fU];rw[tm _ _ (aR _)];simp only[pP,cD];rw[pa (zZ ..) (by rw[aZ];omega),tm _ _ (aR _)];simp only[pP,cD,aa];rw[kZ (by omega:x.ds.getD i 0 * 2 ^ s / 4294967296 < 4294967296)];exact ih
theorem Sf {x:NV} {s:Nat} (m:af) (hx:NOk x) (hs:s < 32):AC ae 204 [x.av,.int .u64 s] m=some (.arr m.length 0 (x.ds.length+1) none,m++[oc (jz x.ds s x.ds.length)]):=by
 have lx:=hx.len;rw[qfX];simp only[gZ,aa];rw[cG (by omega),aa,wX (by omega) (by omega)];simp only[aa];refine (qeX x s m _ lx hx.dg hs x.ds.length 0 (by omega)).trans ?_;rw[qdo]
def lz (x:Nat):Nat:=31 - Nat.log2 x
theorem qmz {x k:Nat} (h:2 ^ k<=x) (h':x < 2 ^ (k+1)):Nat.log2 x=k:=by
 have hx:x≠0:=by have:=uF k;omega
 exact (Nat.log2_eq_iff hx).2 ⟨h,h'⟩
def Iu:ByteArray:=⟨⟨[0,1,2,2,3,3,3,3,4,4,4,4,4,4,4,4,5,5,5,5,5,5,5,5,5,5,5,5,5,5,5,5,6,6,6,6,6,6,6,6,6,6,6,6,6,6,6,6,6,6,6,6,6,6,6,6,6,6,6,6,6,6,6,6,7,7,7,7,7,7,7,7,7,7,7,7,7,7,7,7,7,7,7,7,7,7,7,7,7,7,7,7,7,7,7,7,7,7,7,7,7,7,7,7,7,7,7,7,7,7,7,7,7,7,7,7,7,7,7,7,7,7,7,7,7,7,7,7,8,8,8,8,8,8,8,8,8,8,8,8,8,8,8,8,8,8,8,8,8,8,8,8,8,8,8,8,8,8,8,8,8,8,8,8,8,8,8,8,8,8,8,8,8,8,8,8,8,8,8,8,8,8,8,8,8,8,8,8,8,8,8,8,8,8,8,8,8,8,8,8,8,8,8,8,8,8,8,8,8,8,8,8,8,8,8,8,8,8,8,8,8,8,8,8,8,8,8,8,8,8,8,8,8,8,8,8,8,8,8,8,8,8,8,8,8,8,8,8,8,8,8,8,8,8,8,8]⟩⟩
theorem qmr (v:AV):sP (.str ⟨⟨[0,1,2,2,3,3,3,3,4,4,4,4,4,4,4,4,5,5,5,5,5,5,5,5,5,5,5,5,5,5,5,5,6,6,6,6,6,6,6,6,6,6,6,6,6,6,6,6,6,6,6,6,6,6,6,6,6,6,6,6,6,6,6,6,7,7,7,7,7,7,7,7,7,7,7,7,7,7,7,7,7,7,7,7,7,7,7,7,7,7,7,7,7,7,7,7,7,7,7,7,7,7,7,7,7,7,7,7,7,7,7,7,7,7,7,7,7,7,7,7,7,7,7,7,7,7,7,7,8,8,8,8,8,8,8,8,8,8,8,8,8,8,8,8,8,8,8,8,8,8,8,8,8,8,8,8,8,8,8,8,8,8,8,8,8,8,8,8,8,8,8,8,8,8,8,8,8,8,8,8,8,8,8,8,8,8,8,8,8,8,8,8,8,8,8,8,8,8,8,8,8,8,8,8,8,8,8,8,8,8,8,8,8,8,8,8,8,8,8,8,8,8,8,8,8,8,8,8,8,8,8,8,8,8,8,8,8,8,8,8,8,8,8,8,8,8,8,8,8,8,8,8,8,8,8,8]⟩⟩) v=sP (.str Iu) v:=rfl
theorem qmq:∀ x:Fin 256,(Iu[x.1]?).map (fun b=>b.toNat)=some (if x.1=0 then 0 else Nat.log2 x.1+1):=by decide +kernel
theorem It {x:Nat} (h:0 < x) (h':x < 256):sP (.str Iu) (.int .u8 x)=some (.int .u8 (Nat.log2 x+1:Nat)):=by
 have:=qmq ⟨x,h'⟩;simp only[aj (Nat.pos_iff_ne_zero.1 h)] at this;rw[sP,an (by omega),cK]
 cases he:Iu[x]? with
 | none=>rw[he] at this;cases this
 | some b=>
  rw[he] at this;simp only[aQ,bG] at this ⊢;rw[this]
theorem Hn {a:Nat} {k:IntKind} (h:a < 256):bm .u8 (.int k a)=some (.int .u8 a):=by
 rw[lR,show IntKind.wrap .u8 (a:Int)=(a:Int) % 256 from rfl,Int.emod_eq_of_lt (by omega) (by omega)]
theorem Hm {a:Nat} {k:IntKind} (h:a < 9223372036854775808):bm .i64 (.int k a)=some (.int .i64 a):=by
 rw[lR,iK (by omega) (by omega)]
theorem NT {x k:Nat} (h:2 ^ k<=x):Nat.log2 x=Nat.log2 (x / 2 ^ k)+k:=by
 have hp:=uF k
 have hy:x / 2 ^ k≠0:=by
  have:0 < x / 2 ^ k:=Nat.div_pos h hp;omega
 have h1:=Nat.log2_self_le hy;have h2:=Nat.lt_log2_self (n:=x / 2 ^ k)
 apply qmz
 ·rw[qX];exact (Gw hp).1 h1
 ·rw[show Nat.log2 (x / 2 ^ k)+k+1=Nat.log2 (x / 2 ^ k)+1+k by omega,qX];exact (uD hp).1 h2
theorem qpt {tk:TK} {a:Nat}:ag tk .shr (.int .u32 a) (.int .u64 16)=some (.int .u32 (a / 65536:Nat)):=Pe (s:=16) (by omega)
theorem Zi {tk:TK} {a:Nat}:ag tk .shr (.int .u32 a) (.int .u64 8)=some (.int .u32 (a / 256:Nat)):=Pe (s:=8) (by omega)
theorem Iy {x:Nat} (h:x < 256):Nat.log2 x < 8:=by
 by_cases h0:x=0
 ·subst h0;decide
 ·exact (Nat.log2_lt h0).2 h
theorem qfT {x:Nat} (m:af) (h:0 < x) (h':x < 4294967296):AC ae 199 [dg x] m=some (.int .i64 (Nat.log2 x+1:Nat),m):=by
 have g1:ag .other .geq (dg x) (.int .u32 65536)=some (.bool (decide (x≥65536))):=IG (b:=65536);have g2:∀ y:Nat,ag .other .geq (.int .u32 y) (.int .u32 256)=some (.bool (decide (y≥256))):=fun y=>IG (b:=256);have g3:ag .other .geq (dg x) (.int .u32 256)=some (.bool (decide (x≥256))):=IG (b:=256);have a1:ag .other .add (.int .i64 16) (.int .i64 8)=some (.int .i64 24):=rfl;have a2:ag .other .add (.int .i64 0) (.int .i64 8)=some (.int .i64 8):=rfl;have b1:∀ y:Nat,y < 300->ag .other .add (.int .i64 24) (.int .i64 y)=some (.int .i64 (24+y:Nat)):=fun y h=>kM (a:=24) (by omega);have b2:∀ y:Nat,y < 300->ag .other .add (.int .i64 16) (.int .i64 y)=some (.int .i64 (16+y:Nat)):=fun y h=>kM (a:=16) (by omega);have b3:∀ y:Nat,y < 300->ag .other .add (.int .i64 8) (.int .i64 y)=some (.int .i64 (8+y:Nat)):=fun y h=>kM (a:=8) (by omega);have b4:∀ y:Nat,y < 300->ag .other .add (.int .i64 0) (.int .i64 y)=some (.int .i64 (0+y:Nat)):=fun y h=>kM (a:=0) (by omega);have s1:ag .other .shr (dg x) (.int .u64 16)=some (.int .u32 (x / 65536:Nat)):=qpt;have s2:ag .other .shr (dg x) (.int .u64 8)=some (.int .u32 (x / 256:Nat)):=Zi
 have k0:bm .u8 (dg x)=if x < 256 then some (.int .u8 x) else bm .u8 (dg x):=by
  split
  ·rename_i h;exact Hn h
  ·rfl
 rw[qfS];simp only[qmr,g1,g2,g3,a1,a2,s1,s2,aa,az,Zi]
 by_cases c1:x≥65536
 ·rw[an c1];have e1:=NT (x:=x) (k:=16) (by omega);rw[show 2 ^ 16=65536 from rfl] at e1
  by_cases c2:x / 65536≥256
  ·rw[an c2];have e2:=NT (x:=x / 65536) (k:=8) (by omega);rw[show 2 ^ 8=256 from rfl] at e2;have l8:=Iy (x:=x / 65536 / 256) (by omega);rw[Hn (by omega),aa,It (by omega) (by omega),aa,Hm (by omega),aa,b1 _ (by omega),aa];congr 4;omega
  ·rw[aj c2];have l8:=Iy (x:=x / 65536) (by omega);rw[Hn (by omega),aa,It (by omega) (by omega),aa,Hm (by omega),aa,b2 _ (by omega),aa];congr 4;omega
 ·rw[aj c1]
  by_cases c2:x≥256
  ·rw[an c2];have e2:=NT (x:=x) (k:=8) (by omega);rw[show 2 ^ 8=256 from rfl] at e2;have l8:=Iy (x:=x / 256) (by omega);rw[Hn (by omega),aa,It (by omega) (by omega),aa,Hm (by omega),aa,b3 _ (by omega),aa];congr 4;omega
  ·rw[aj c2];have l8:=Iy (x:=x) (by omega);rw[k0,an (by omega),aa,It (by omega) (by omega),aa,Hm (by omega),aa,b4 _ (by omega),aa];congr 4;omega
theorem qgf {x:Nat} (h:0 < x) (h':x < 4294967296):AP ae 199 [dg x]=some (.int .i64 (Nat.log2 x+1:Nat)):=
 iH (qfT [] h h') (gu _ _ _) (by simp[iQ])
theorem qgh {x:Nat} (h:0 < x) (h':x < 4294967296):AP ae 203 [dg x]=some (.int .i64 (lz x:Nat)):=by
 have hl:Nat.log2 x < 32:=(Nat.log2_lt (by omega)).2 h';refine iH (m:=[]) ?_ (gu _ _ _) (by simp[iQ]);rw[qfW,cw (a:=dg x) (a':=dg x) (gu .u32 x),qgf h h'];simp only[aQ,aa];have e:ag .other .sub (.int .i64 32) (.int .i64 (Nat.log2 x+1:Nat))=some (.int .i64 (32 - (Nat.log2 x+1):Nat)):=nc (a:=32) (by omega) (by omega);have e2:32 - (Nat.log2 x+1)=lz x:=by rw[lz];omega
 rw[e,e2]
 rfl
end Go.Ab
namespace Go.Ab
open Go.Proofs.Tryz
theorem qgG (v:NV) (u:List Nat) (m:af) (K:KT) (x9 aV:AV) (nu L n j top v1 v2 u0 p lo vlo q:Nat)
  (hn:v.ds.length=n) (mX:2<=n) (hm:m[nu]?=some (oc u)) (hL:u.length=L) (yo:L < 2 ^ 42) (U9:j+n < L) (du:Dg u) (dv:Dg v.ds)
  (e1:v.ds.getD (n - 1) 0=v1) (e2:v.ds.getD (n - 2) 0=v2) (e3:u.getD (j+n - 2) 0=u0)
  (kr:2147483648<=v1) (mI:top<=v1 * 4294967296+4294967295) (gR:lo < p) (VF:vlo < p)
  (hq:q=((top * 4294967296+u0) * p+lo) / ((v1 * 4294967296+v2) * p+vlo)) (hqB:q < 4294967296) :
  ∀ k g r:Nat,4294967296<=r+k * v1->r < 4294967296->g * v1+r=top->q<=g ->
  ∃ g',q<=g'/\g' < 4294967296/\g' * ((v1 * 4294967296+v2) * p+vlo) < ((top * 4294967296+u0) * p+lo)+((v1 * 4294967296+v2) * p+vlo) /\
   zT x9 (.arr nu 0 L none) v.av (.int .i64 n) aV (.int .i64 j) (.int .u64 g) (.int .u64 r) m K
    = K (.exit 3) (xO x9 (.arr nu 0 L none) v.av (.int .i64 n) aV (.int .i64 j) (.int .u64 g') m):=by
 have qp3:v1 < 4294967296:=e1▸dv (n - 1);have qlY:v2 < 4294967296:=e2▸dv (n - 2);have qlX:u0 < 4294967296:=e3▸du (j+n - 2);intro k
 induction k with
 | zero=>intro g r h1 h2;omega
 | succ k ih=>
  intro g r h1 h2 h3 h4
  have hgB:g < 4294967296+2:=by
   have:g * v1 < (4294967296+2) * v1:=by omega
   exact Gx this
  have DE:g * v2<=4294967297 * 4294967295:=rZ (by omega) (by omega)
  have dec:q < g->∃ g',q<=g'/\g' < 4294967296/\g' * ((v1 * 4294967296+v2) * p+vlo) < ((top * 4294967296+u0) * p+lo)+((v1 * 4294967296+v2) * p+vlo) /\
    (if r+v1≥4294967296 then K (.exit 3) (xO x9 (.arr nu 0 L none) v.av (.int .i64 n) aV (.int .i64 j) (.int .u64 (g - 1:Nat)) m)
     else zT x9 (.arr nu 0 L none) v.av (.int .i64 n) aV (.int .i64 j) (.int .u64 (g - 1:Nat)) (.int .u64 (r+v1:Nat)) m K)
    = K (.exit 3) (xO x9 (.arr nu 0 L none) v.av (.int .i64 n) aV (.int .i64 j) (.int .u64 g') m):=by
   intro vk;obtain ⟨g1,uW⟩:∃ g1,g=g1+1:=⟨g - 1,by omega⟩;subst uW;rw[gX,qW] at h3;rw[pn]
   by_cases hb:r+v1≥4294967296
   ·rw[an hb]
    have hlt:g1 < 4294967296:=by
     have:g1 * v1 < 4294967296 * v1:=by omega
     exact Gx this
    refine ⟨g1,by omega,hlt,?_,rfl⟩;have h5:g1 * v2<=4294967296 * 4294967295:=rZ (by omega) (by omega);exact Uw (r:=r+v1) (top:=top) (u0:=u0) (by omega) (by omega) hlt VF (by omega) rfl rfl
   ·rw[aj hb];rw[gX] at h1;exact ih g1 (r+v1) (by omega) (by omega) (by omega) (by omega)
  rw[qeV];simp (disch:=omega) only[qmV,aa,az,Jr,oC,ma,kA,my,nR,e1]
  by_cases c1:g≥4294967296
  ·rw[an c1];exact dec (by omega)
  ·rw[aj c1];simp (disch:=omega) only[VJ,aa,ma,kA,e2]
   rw[my v2 qlY,aa,EC (by omega),aa,EE (by omega),aa,kM (by omega),aa,VJ (by omega) (by omega),aa,fU (by omega),aa,
    sS hm (by omega),aa,e3,my u0 qlX,aa,ED (by omega) (by omega),aa,Bj,aa,az]
   by_cases c2:g * v2 > r * 4294967296+u0
   ·have vk:=qkO (q:=q) (vlo:=vlo) h3 c2 gR (by rw[hq];exact Gv _ _);rw[an c2,Jr (by omega) (by omega),aa];exact dec vk
   ·rw[aj c2];exact ⟨g,h4,by omega,Uw h3 (vS c2) (by omega) VF (by omega) rfl rfl,rfl⟩
theorem qgH (v:NV) (u:List Nat) (m0:af) (K:KT) (x9 aV:AV) (nu L n j g:Nat)
  (hn:v.ds.length=n) (hm:m0[nu]?=some (oc u)) (hL:u.length=L) (yo:L < 2 ^ 42) (U9:j+n < L) (du:Dg u) (dv:Dg v.ds) (hg:g < 4294967296):∀ r i:Nat,i+r=n ->
  Ci x9 (.arr nu 0 L none) v.av (.int .i64 n) aV (.int .i64 j) (.int .u64 g) (.int .u64 (jd v.ds g j i u).2.1) (.int .u64 (jd v.ds g j i u).2.2) (.int .i64 n) (.int .i64 i) (m0.set nu (oc (jd v.ds g j i u).1)) K
   = K (.exit 5) (KN x9 (.arr nu 0 L none) v.av (.int .i64 n) aV (.int .i64 j) (.int .u64 g) (.int .u64 (jd v.ds g j n u).2.1) (.int .u64 (jd v.ds g j n u).2.2) (m0.set nu (oc (jd v.ds g j n u).1))):=by
 have Na:nu < m0.length:=by
  apply qk;intro h;rw[mQ (by omega)] at hm;cases hm
 intro r
 induction r with
 | zero=>
  intro i hi;have:i=n:=by omega
  subst this;rw[QJ];simp[bg,aw]
 | succ r ih=>
  intro i hi;have ih:=ih (i+1) (by omega);have hlen:=Ee v.ds g j u i;have hb:=Ed v.ds g j u i;have hc:=IE dv hg j u i;have hd:=IF (v:=v.ds) (g:=g) du j i (i+j);have hvd:=dv i;have DE:g * v.ds.getD i 0<=4294967295 * 4294967295:=rZ (by omega) (by omega);have s1:ag .other .shl (.int .u64 1) (.int .u64 32)=some (.int .u64 (4294967296:Nat)):=rfl;have s0:ag .other .shl (.int .u64 0) (.int .u64 32)=some (.int .u64 (0:Nat)):=rfl;rw[QJ];simp only[jd] at ih;generalize jd v.ds g j i u=t at *;obtain ⟨t,b,c⟩:=t;simp only[] at *;have aU:(m0.set nu (oc t))[nu]?=some (oc t):=Cv Na;simp (disch:=omega) only[dp,aa,az,an,ma,kA,my,EC,nR,qpv,kM,fU,sS aU,Jq,cG]
  by_cases h:t.getD (i+j) 0 < (c+g * v.ds.getD i 0) % 4294967296+b
  ·rw[an h];rw[an h] at ih;rw[s1,aa,nR (by omega),aa,zp (by omega) (by omega),aa,mz,aa,kZ (by omega),pa aU (by omega),Ae];exact ih
  ·rw[aj h];rw[aj h] at ih;rw[s0,aa,nR (by omega),aa,zp (by omega) (by omega),aa,mz,aa,kZ (by omega),pa aU (by omega),Ae];exact ih
theorem qgI (v:NV) (u:List Nat) (m0:af) (K:KT) (x9 aV bS:AV) (nu L n j:Nat)
  (hn:v.ds.length=n) (hm:m0[nu]?=some (oc u)) (hL:u.length=L) (yo:L < 2 ^ 42) (U9:j+n < L) (du:Dg u) (dv:Dg v.ds):∀ r i:Nat,i+r=n ->
  Gd x9 (.arr nu 0 L none) v.av (.int .i64 n) aV (.int .i64 j) bS (.int .u64 (kg v.ds j i u).2) (.int .i64 n) (.int .i64 i) (m0.set nu (oc (kg v.ds j i u).1)) K
   = K (.exit 7) (KO x9 (.arr nu 0 L none) v.av (.int .i64 n) aV (.int .i64 j) bS (.int .u64 (kg v.ds j n u).2) (m0.set nu (oc (kg v.ds j n u).1))):=by
 have Na:nu < m0.length:=by
  apply qk;intro h;rw[mQ (by omega)] at hm;cases hm
 intro r
 induction r with
 | zero=>
  intro i hi;have:i=n:=by omega
  subst this;rw[QK];simp[bg,aw]
 | succ r ih=>
  intro i hi;have ih:=ih (i+1) (by omega);have hlen:=CU v.ds j u i;obtain ⟨hd,hc⟩:=Hf dv du j i;have hd:=hd (i+j);have hvd:=dv i;rw[QK];simp only[kg] at ih;generalize kg v.ds j i u=t at *;obtain ⟨t,c⟩:=t;simp only[] at *;have aU:(m0.set nu (oc t))[nu]?=some (oc t):=Cv Na;simp (disch:=omega) only[dp,aa,az,an,ma,kA,my,nR,kM,fU,sS aU,Jq,cG,mz,pa aU,Ae];exact ih
theorem qpw {tk:TK} {t y:Nat} (ht:t < 4294967296) (hy:y<=4294967296):∃ w,ag tk .sub (.int .u64 t) (.int .u64 y)=some w/\bm .u32 w=some (.int .u32 ((t+4294967296 - y) % 4294967296:Nat)):=by
 refine ⟨_,pv _ _ _ _,?_⟩;rw[lR,xp,Zy];congr 2;omega
theorem qme {v u:List Nat} {n j:Nat} (hv:Dg v) (hu:Dg u) (hn:v.length=n) (mX:2<=n) :
  val v=(v.getD (n - 1) 0 * 4294967296+v.getD (n - 2) 0) * 4294967296 ^ (n - 2)+vs v (n - 2) /\
  wn u j (n+1)=((u.getD (j+n) 0 * 4294967296+u.getD (j+n - 1) 0) * 4294967296+u.getD (j+n - 2) 0) * 4294967296 ^ (n - 2)+wn u j (n - 2):=by
 obtain ⟨k,rfl⟩:∃ k,n=k+2:=⟨n - 2,by omega⟩;have e1:k+2 - 1=k+1:=by omega
 have e2:k+2 - 2=k:=by omega
 have e3:j+(k+2) - 1=j+(k+1):=by omega
 have e4:j+(k+2) - 2=j+k:=by omega
 rw[e1,e2,e3,e4]
 constructor
 ·rw[<- jh (Nat.le_of_eq hn),jL,jL,jO,gX,cP (4294967296 ^ k) (v.getD k 0),cP (4294967296 ^ k * 4294967296),cP (4294967296 ^ k),fB];omega
 ·rw[wn,wn,wn,jO (m:=k+1),jO];rw[gX,gX,gX,cP (4294967296 ^ k) (u.getD (j+k) 0),cP (4294967296 ^ k * 4294967296) (u.getD (j+(k+1)) 0),cP (4294967296 ^ k * 4294967296 * 4294967296),cP (4294967296 ^ k),];generalize 4294967296 ^ k=p;have h1:u.getD (j+(k+1)) 0 * (4294967296 * p)=u.getD (j+(k+1)) 0 * 4294967296 * p:=(fB _ _ _).symm
  have h2:u.getD (j+(k+2)) 0 * (4294967296 * p * 4294967296)=u.getD (j+(k+2)) 0 * 4294967296 * 4294967296 * p:=by
   rw[Nat.mul_right_comm 4294967296 p,<- fB,<- fB]
  rw[h1,h2];omega
theorem qmd {v u0 u q:List Nat} {n m j:Nat} (hv:Dg v) (hn:v.length=n) (mX:2<=n) (h:KInv v u0 n m (j+1) u q) :
  u.getD (j+n) 0<=v.getD (n - 1) 0/\wn u j (n+1) / val v < 4294967296/\0 < val v:=by
 have hlt:=h.lt;have hp:0 < val v:=by omega
 obtain ⟨k,rfl⟩:∃ k,n=k+1:=⟨n - 1,by omega⟩;have hV:val v=vs v k+4294967296 ^ k * v.getD k 0:=by rw[<- jh (Nat.le_of_eq hn),jL]
 have h1:=xn hv k
 refine ⟨?_,?_,hp⟩
 ·rw[pn];rw[wn,show j+1+k=j+(k+1) by omega] at hlt;apply vS;intro hc;have:4294967296 ^ k * (v.getD k 0+1)<=4294967296 ^ k * u.getD (j+(k+1)) 0:=kE _ hc;rw[gm] at this;omega
 ·rw[uD hp,ES];have h2:=h.du j;omega
theorem qkh {top u0 v1 v2 p lo vlo:Nat} (kr:0 < v1) (gR:lo < p) (hu:u0 < 4294967296) :
  ((top * 4294967296+u0) * p+lo) / ((v1 * 4294967296+v2) * p+vlo)<=top / v1:=by
 have h:=Gv ((top * 4294967296+u0) * p+lo) ((v1 * 4294967296+v2) * p+vlo);generalize ((top * 4294967296+u0) * p+lo) / ((v1 * 4294967296+v2) * p+vlo)=q at *;rw[Gw kr]
 have h1:(top * 4294967296+u0) * p+lo < (top+1) * 4294967296 * p:=by
  have:(top * 4294967296+u0+1) * p<=(top+1) * 4294967296 * p:=iO _ (by omega);rw[gX _ 1,qW] at this;omega
 have h2:q * v1 * 4294967296 * p<=q * ((v1 * 4294967296+v2) * p+vlo):=by
  rw[fB q,fB q];exact kE _ (fA (iO _ (Nat.le_add_right _ _)) (Nat.le_add_right _ _))
 have h3:q * v1 * 4294967296 * p < (top+1) * 4294967296 * p:=by omega
 have h4:=Gx (Gx h3);omega
def M3 (u q:List Nat):af:=[oc u,none,oc q]
theorem qgF (v:NV) (u0:List Nat) (K:KT) (x9:AV) (L n mm:Nat)
  (hn:v.ds.length=n) (mX:2<=n) (dv:Dg v.ds) (hL:L=mm+n) (yo:L < 2 ^ 42) (kr:2147483648<=v.ds.getD (n - 1) 0):∀ (j:Nat) (u q:List Nat),j<=mm->KInv v.ds u0 n mm j u q ->
  ∃ u' q',KInv v.ds u0 n mm 0 u' q'/\Ch x9 (.arr 0 0 L none) v.av (.int .i64 n) (.arr 2 0 mm none) (.int .i64 ((j:Int) - 1)) (M3 u q) K
   = K (.exit 1) (KM x9 (.arr 0 0 L none) (.int .i64 n) (.arr 2 0 mm none) (M3 u' q')):=by
 intro j
 induction j with
 | zero=>
  intro u q _ hI;refine ⟨u,q,hI,?_⟩;rw[QI];simp[kF,aw]
 | succ j ih=>
  intro u q hj hI;have hu:=hI.du;have Vj:=hI.lu;have yB:=hI.lq;obtain ⟨p1,p2,p3⟩:=qmd dv hn mX hI;obtain ⟨t1,t2⟩:=qme (j:=j) dv hu hn mX;have d1:=hu (j+n);have d2:=hu (j+n - 1);have d3:=dv (n - 1);have aU:(M3 u q)[0]?=some (oc u):=rfl;have Dt:=p3;rw[QI,show ((j+1:Nat):Int) - 1=(j:Nat) by omega];simp (disch:=omega) only[Eh,aa,aw,kM,fU,sS aU,my,EE,oC,ED,ma,kA,zn,BK];have ku:=xn dv (n - 2);have hws:=zw hu j (n - 2);have HT:=vR (u.getD (j+n) 0 * 4294967296+u.getD (j+n - 1) 0) (v.ds.getD (n - 1) 0);have hrm:(u.getD (j+n) 0 * 4294967296+u.getD (j+n - 1) 0) % v.ds.getD (n - 1) 0 < v.ds.getD (n - 1) 0:=kf _ (by omega);have hq:wn u j (n+1) / val v.ds=(((u.getD (j+n) 0 * 4294967296+u.getD (j+n - 1) 0) * 4294967296+u.getD (j+n - 2) 0) * 4294967296 ^ (n - 2)+wn u j (n - 2)) / ((v.ds.getD (n - 1) 0 * 4294967296+v.ds.getD (n - 2) 0) * 4294967296 ^ (n - 2)+vs v.ds (n - 2)):=by rw[t1,t2]
  have hle:u.getD (j+n) 0 * 4294967296+u.getD (j+n - 1) 0<=v.ds.getD (n - 1) 0 * 4294967296+4294967295:=by omega
  have h0:4294967296<=(u.getD (j+n) 0 * 4294967296+u.getD (j+n - 1) 0) % v.ds.getD (n - 1) 0+2 * v.ds.getD (n - 1) 0:=by omega
  have h1:(u.getD (j+n) 0 * 4294967296+u.getD (j+n - 1) 0) % v.ds.getD (n - 1) 0 < 4294967296:=by omega
  have h2:(u.getD (j+n) 0 * 4294967296+u.getD (j+n - 1) 0) / v.ds.getD (n - 1) 0 * v.ds.getD (n - 1) 0+(u.getD (j+n) 0 * 4294967296+u.getD (j+n - 1) 0) % v.ds.getD (n - 1) 0=u.getD (j+n) 0 * 4294967296+u.getD (j+n - 1) 0:=by rw[cP];exact HT
  have h3:wn u j (n+1) / val v.ds<=(u.getD (j+n) 0 * 4294967296+u.getD (j+n - 1) 0) / v.ds.getD (n - 1) 0:=by
   rw[t1,t2];exact qkh (by omega) hws (hu _)
  obtain ⟨g,g1,g2,g3,g4⟩:=qgG v u (M3 u q) (J4 K) x9 (.arr 2 0 mm none) 0 L n j (u.getD (j+n) 0 * 4294967296+u.getD (j+n - 1) 0) (v.ds.getD (n - 1) 0) (v.ds.getD (n - 2) 0) (u.getD (j+n - 2) 0) (4294967296 ^ (n - 2)) (wn u j (n - 2)) (vs v.ds (n - 2))
   (wn u j (n+1) / val v.ds) hn mX aU (by omega) yo (by omega) hu dv rfl rfl rfl kr hle hws ku hq p2 2 ((u.getD (j+n) 0 * 4294967296+u.getD (j+n - 1) 0) / v.ds.getD (n - 1) 0) ((u.getD (j+n) 0 * 4294967296+u.getD (j+n - 1) 0) % v.ds.getD (n - 1) 0) h0 h1 h2 h3
  rw[<- t1,<- t2] at g3;obtain ⟨s1,s2,s3,s4,s5⟩:=qmc dv hu hn (by omega) g2 p3 g1 g3;have Ds:=KInv.step dv hn (by omega) hI s1 s2 s3 s4 s5 p3;have yu:=Ds.dq j;have qpT:=Ds.lq;rw[rm (by omega)] at yu;obtain ⟨u',q',i1,i2⟩:=ih _ _ (by omega) Ds;refine ⟨u',q',i1,g4.trans ?_⟩;rw[qcS];have m0:=qgH v u (M3 u q) (J5 K) x9 (.arr 2 0 mm none) 0 L n j g hn aU (by omega) yo (by omega) hu dv g2 n 0 (by omega)
  refine Eq.trans ?_ (m0.trans ?_)
  ·rfl
  rw[qcX];have hb:=Ed v.ds g j u n;have hc:=IE dv g2 j u n;have hd:=IF (v:=v.ds) (g:=g) hu j n;have hl:=Ee v.ds g j u n;have ql0:=N5 (v:=v.ds) (g:=g) hu j n (by omega);unfold yU at i2 yu;simp only[] at i2 yu;generalize jd v.ds g j n u=t at *;obtain ⟨t,b,c⟩:=t;simp only[] at *;have hM:(M3 u q).set 0 (oc t)=M3 t q:=rfl;have U5:(M3 t q)[0]?=some (oc t):=rfl;have Np:∀ l r:List Nat,(M3 l q).set 0 (oc r)=M3 r q:=fun _ _=>rfl;have AR:∀ l r:List Nat,(M3 l r)[2]?=some (oc r):=fun _ _=>rfl;have DS:∀ l r p:List Nat,(M3 l r).set 2 (oc p)=M3 l p:=fun _ _ _=>rfl;rw[hM];have hd4:=hd (j+n);obtain ⟨w,w1,w2⟩:=qpw (tk:=.other) (t:=t.getD (j+n) 0) (y:=c+b) hd4 (by omega);simp (disch:=omega) only[nR,aa,kM,fU,sS U5,my,dp,w1,w2,pa U5,Np];rw[az]
  by_cases pW:t.getD (j+n) 0 < c+b
  ·rw[an pW];rw[an pW] at i2 yu;have UQ:Dg (t.set (j+n) (t.getD (j+n) 0+4294967296 - (c+b))):=hd.set _ _ (by omega);have m1:=qgI v (t.set (j+n) (t.getD (j+n) 0+4294967296 - (c+b))) (M3 (t.set (j+n) (t.getD (j+n) 0+4294967296 - (c+b))) q) (J6 K) x9 (.arr 2 0 mm none) (.int .u64 (g - 1:Nat)) 0 L n j hn rfl (by rw[aZ];omega) yo (by omega) UQ dv n 0 (by omega);have ha:=Hf dv UQ j n;have fC:=CU v.ds j (t.set (j+n) (t.getD (j+n) 0+4294967296 - (c+b))) n
   have UZ:0 < g:=by
    apply oJ;intro e0;rw[e0,xN,ke] at ql0;have hlt:=zw hd j n;have h9:4294967296 ^ n * 1<=4294967296 ^ n * (c+b):=kE _ (by omega);omega
   rw[show (t.getD (j+n) 0+4294967296 - (c+b)) % 4294967296=t.getD (j+n) 0+4294967296 - (c+b) by omega,Jr (by omega) (by omega),aa];rw[aZ] at fC
   refine Eq.trans ?_ (m1.trans ?_)
   ·rfl
   generalize kg v.ds j n (t.set (j+n) (t.getD (j+n) 0+4294967296 - (c+b)))=w at *;obtain ⟨w,x⟩:=w;simp only[] at *;obtain ⟨a1,a2⟩:=ha;rw[Np,qc3];have U6:(M3 w q)[0]?=some (oc w):=rfl
   rw[kM (by omega),aa,fU (by omega),aa,sS U6 (by omega),aa,mz,aa,kZ (by omega:x < 4294967296),dg,qpr,aa,aa,
    pa U6 (by omega),Np,aa,mz,aa,fU (by omega),aa,pa (AR _ _) (by omega),DS,aa,tY (by omega),aa]
   rw[kZ (by omega:g - 1 < 4294967296)];exact i2
  ·rw[aj pW];rw[aj pW] at i2 yu;rw[mz,aa,pa (AR _ _) (by omega),DS,aa,tY (by omega),aa];rw[show (t.getD (j+n) 0+4294967296 - (c+b)) % 4294967296=t.getD (j+n) 0 - (c+b) by omega,kZ g2];exact i2
theorem qgJ (u q:List Nat) (K:KT) (aV:AV) (s L n:Nat) (du:Dg u) (hL:u.length=L) (yo:L < 2 ^ 42) (hn:n < L) (hs:s < 32):∀ r i:Nat,i+r=n ->
  Cj (.int .u64 s) (.arr 0 0 L none) aV (.arr 3 0 n none) (.int .i64 n) (.int .i64 i) (M3 u q++[oc (kW u s i++List.replicate r 0)]) K
   = K (.exit 9) (KP aV (.arr 3 0 n none) (M3 u q++[oc (kW u s n)])):=by
 intro r
 induction r with
 | zero=>
  intro i hi;have:i=n:=by omega
  subst this;rw[QL];simp[bg,aw]
 | succ r ih=>
  intro i hi;have ih:=ih (i+1) (by omega);have hlen:=EF u s i;have yt:=du i;have Dy:=du (i+1);have b1:=Zm hs yt;have b2:=Zl (y:=u.getD (i+1) 0) hs yt;have b3:u.getD (i+1) 0 * 2 ^ (32 - s) % 4294967296 % 2 ^ (32 - s)=0:=by rw[Pj hs,Nat.mul_mod_left]
  have HX:∀ l,(M3 u q++[oc l])[0]?=some (oc u):=fun _=>rfl;have AR:∀ l,(M3 u q++[oc l])[3]?=some (oc l):=fun _=>rfl;have DS:∀ l l',(M3 u q++[oc l]).set 3 (oc l')=M3 u q++[oc l']:=fun _ _=>rfl
  have Ig:∀ x,(kW u s i++List.replicate (r+1) 0).set i x=kW u s i++x::List.replicate r 0:=by
   intro x;rw[tm _ _ (by omega),hlen,pP,xM,cD]
  have qlM:∀ x y,(kW u s i++x::List.replicate r 0).set i y=kW u s i++y::List.replicate r 0:=by
   intro x y;rw[tm _ _ (by omega),hlen,pP,cD]
  have qlN:∀ x,(kW u s i++x::List.replicate r 0).getD i 0=x:=by
   intro x;rw[aT,rU (by omega),hlen,pP]
   rfl
  have mW:i < (kW u s i++List.replicate (r+1) 0).length:=by rw[aI,hlen,uy];omega
  have ja:∀ x,i < (kW u s i++x::List.replicate r 0).length:=by intro x;rw[aI,hlen,aJ,uy];omega
  rw[kW,ga,bQ,bE] at ih
  rw[QL,dp,aa,az,an (by omega),fU (by omega),aa,sS (HX _) (by omega),aa,dg,Pe hs,aa,fU (by omega),aa,
   pa (AR _) mW,DS,Ig,aa,vx,aa,az]
  by_cases h0:s > 0
  ·rw[an h0];have e32:ag .other .sub (.int .u64 32) (.int .u64 s)=some (.int .u64 (32 - s:Nat)):=zp (a:=32) (by omega) (by omega)
   rw[aa,sS (AR _) (ja _),aa,qlN,cG (by omega),aa,fU (by omega),aa,sS (HX _) (by omega),aa,e32,aa,dg,dg,Zh (by omega) Dy,aa,
    Zg b1 b3 b2,aa,aa,pa (AR _) (ja _),DS,qlM,aa,aa]
   exact ih
  ·rw[aj h0,cG (by omega),aa];have nC:s=0:=by omega
   subst nC;rw[show u.getD (i+1) 0 * 2 ^ (32 - 0) % 4294967296=0 from Nat.mul_mod_left _ _,ke] at ih;exact ih
end Go.Ab
namespace Go.Ab
open Go.Proofs.Tryz
def ll (x y:NV):NV:=if x.v < y.v then ⟨true,.full,[]⟩ else ⟨false,.no,aB (x.v / y.v)⟩
def oM (x y:NV):NV:=if x.v < y.v then ⟨x.z,qF x.v,aB x.v⟩ else if y.v < 4294967296 then ⟨false,qF (x.v % y.v),aB (x.v % y.v)⟩ else ⟨false,.no,aB (x.v % y.v)⟩
theorem Hy (x y:NV):(ll x y).ds=aB (x.v / y.v):=by
 unfold ll
 split
 ·rename_i h;rw[Nat.div_eq_of_lt h,lh]
 ·rfl
theorem Hz (x y:NV):(oM x y).ds=aB (x.v % y.v):=by
 unfold oM
 split
 ·rename_i h;rw[kZ h]
 ·split<;>rfl
theorem kR {a b:Nat} (h:a<=b):(aB a).length<=(aB b).length:=by
 have:=mO (gd b);rw[gj] at this;exact oL (jr h this)
theorem NOk.v_len {x:NV} (h:NOk x):(aB x.v).length<=x.ds.length:=TN h.dg
theorem NOk.v_len' {x:NV} (h:NOk x):(aB x.v).length < 2 ^ 40:=jr h.v_len h.len
theorem NOk.z_v {x:NV} (h:NOk x):x.z=true->aB x.v=[]:=by
 intro hz;rw[NV.v,h.nil hz];exact lh
theorem TP {x y:NV} (hx:NOk x):NOk (ll x y):=by
 refine ⟨by rw[Hy];exact gd _,?_,?_⟩
 ·rw[Hy];exact jr (kR (Af _ _)) hx.v_len'
 ·unfold ll
  split
  ·intro _;rfl
  ·intro h;cases h
theorem qj2 {x y:NV} (hx:NOk x):NOk (oM x y):=by
 refine ⟨by rw[Hz];exact gd _,?_,?_⟩
 ·rw[Hz];exact jr (kR (Nat.mod_le _ _)) hx.v_len'
 ·unfold oM
  split
  ·exact hx.z_v
  ·split<;>(intro h;cases h)
theorem IP (n:Nat):(qF n).fr=qF n:=by unfold qF;split<;>rfl
theorem De (x y:NV):(ll x y).fr=ll x y:=by unfold ll;split<;>rfl
theorem HA (x y:NV):(oM x y).fr=oM x y:=by
 unfold oM
 split
 ·simp only[NV.fr,IP]
 ·split
  ·simp only[NV.fr,IP]
  ·rfl
theorem LU (x y:NV):(oM x y).v=x.v % y.v:=by rw[NV.v,Hz,gj]
def HB (x y:NV):AV:=if y.v=0 then .tup [Bm,Bm,.int .i64 31] else .tup [(ll x y).av,(oM x y).av,.int .i64 0]
theorem mS {n:Nat}:(aB n).length=0↔n=0:=by rw[List.length_eq_zero_iff];exact EM
theorem Hw {n:Nat}:(aB n).length=1↔n≠0/\n < 4294967296:=by
 constructor
 ·intro h;have h1:=mO (gd n);rw[gj,h] at h1;exact ⟨fun e=>by rw[e,lh] at h;simp at h,by simpa using h1⟩
 ·intro ⟨h,h'⟩;have h1:=oL (k:=1) (n:=n) (by simpa using h');have h2:(aB n).length≠0:=fun e=>h (mS.1 e);omega
theorem Hv {n:Nat} (h:n≠0):(aB n).getD ((aB n).length - 1) 0≠0:=by
 intro e;have h1:pT (aB n)=true:=by rw[pT,gj];exact eT rfl
 rw[<- ON (gd n),w8] at h1;have h2:¬ (aB n).length=0:=fun e=>h (mS.1 e);rw[e] at h1;simp[h2] at h1
theorem Wz {t:Nat} (h:0 < t) (h':t < 4294967296):lz t < 32/\2147483648<=t * 2 ^ lz t/\t * 2 ^ lz t < 4294967296:=by
 have hl:Nat.log2 t < 32:=(Nat.log2_lt (by omega)).2 h';have h1:=Nat.log2_self_le (n:=t) (by omega);have h2:=Nat.lt_log2_self (n:=t);unfold lz;generalize Nat.log2 t=k at *;have e:2 ^ k * 2 ^ (31 - k)=2147483648:=by rw[<- qX,show k+(31 - k)=31 by omega]
 have e2:2 ^ (k+1) * 2 ^ (31 - k)=4294967296:=by rw[<- qX,show k+1+(31 - k)=32 by omega]
 refine ⟨by omega,?_,?_⟩
 ·rw[<- e];exact iO _ h1
 ·rw[<- e2];exact Nat.mul_lt_mul_of_pos_right h2 (uF _)
theorem qoy {b:Nat} {n:Nat} (hn:(aB b).length=n) (mX:1<=n) (hs:lz ((aB b).getD (n - 1) 0) < 32) :
  (aB (2 ^ lz ((aB b).getD (n - 1) 0) * b)).length=n/\2147483648<=(aB (2 ^ lz ((aB b).getD (n - 1) 0) * b)).getD (n - 1) 0:=by
 have hb:b≠0:=by intro e;rw[e,lh] at hn;simp at hn;omega
 have oS:=Hv hb;rw[hn] at oS;have hd:=gd b (n - 1);obtain ⟨s1,s2,s3⟩:=Wz (oJ oS) hd;obtain ⟨k,rfl⟩:∃ k,n=k+1:=⟨n - 1,by omega⟩;rw[pn] at *;have hv:b=vs (aB b) k+4294967296 ^ k * (aB b).getD k 0:=by rw[<- jL,jh (Nat.le_of_eq hn),gj]
 have gR:=xn (gd b) k;generalize (aB b).getD k 0=t at *;generalize vs (aB b) k=l at *;generalize lz t=s at *;have hp:=uF s
 have hlt:2 ^ s * b < 4294967296 ^ (k+1):=by
  have h1:b < 4294967296 ^ k * (t+1):=by rw[gm];omega
  have h4:(t+1) * 2 ^ s<=4294967296:=by
   have hpw:2 ^ s * 2 ^ (32 - s)=4294967296:=zb s1;rw[<- hpw,cP] at s3 ⊢;have:=Nat.lt_of_mul_lt_mul_left s3;exact kE _ this
  have h2:2 ^ s * b < 2 ^ s * (4294967296 ^ k * (t+1)):=Nat.mul_lt_mul_of_pos_left h1 hp;have h3:2 ^ s * (4294967296 ^ k * (t+1))=4294967296 ^ k * ((t+1) * 2 ^ s):=by rw[Nat.mul_left_comm,cP (2 ^ s)]
  have h5:4294967296 ^ k * ((t+1) * 2 ^ s)<=4294967296 ^ k * 4294967296:=kE _ h4;rw[jO];omega
 have wF:4294967296 ^ k * (t * 2 ^ s)<=2 ^ s * b:=by
  rw[cP t,Nat.mul_left_comm];exact kE _ (by omega)
 have H0:=oL hlt
 have qpR:k < (aB (2 ^ s * b)).length:=by
  apply qk;intro hc;have h1:=mO (gd (2 ^ s * b));rw[gj] at h1;have h2:4294967296 ^ (aB (2 ^ s * b)).length<=4294967296 ^ k:=pO (by omega) (by omega);have h3:4294967296 ^ k * 1<=4294967296 ^ k * (t * 2 ^ s):=kE _ (by omega);omega
 refine ⟨by omega,?_⟩;have tT:2 ^ s * b=vs (aB (2 ^ s * b)) k+4294967296 ^ k * (aB (2 ^ s * b)).getD k 0:=by rw[<- jL,jh (by omega),gj]
 have qpS:=xn (gd (2 ^ s * b)) k;generalize (aB (2 ^ s * b)).getD k 0=y at *;generalize vs (aB (2 ^ s * b)) k=l2 at *;apply qk;intro hc;have h1:4294967296 ^ k * (y+1)<=4294967296 ^ k * (t * 2 ^ s):=kE _ (by omega);rw[gm] at h1;omega
theorem qmk {v u0:List Nat} {n m:Nat} (du:Dg u0) (hu:u0.length=m+n) (hlt:wn u0 m n < val v):KInv v u0 n m m u0 (List.replicate m 0) where
 du:=du
 lu:=hu
 dq:=ye m
 lq:=uy
 hi:=by
  intro k hk;exact ym (by omega)
 lo:=fun _ _=>rfl
 lt:=hlt
 eq:=by rw[pP,wn,xN,bf,Nat.add_sub_cancel_left]
theorem qpi {u v:List Nat} {n m:Nat} (hu:Dg u) (hn:v.length=n) (mX:1<=n) (h:u.getD (m+n - 1) 0 < v.getD (n - 1) 0):wn u m n < val v:=by
 obtain ⟨k,rfl⟩:∃ k,n=k+1:=⟨n - 1,by omega⟩;rw[pn,show m+(k+1) - 1=m+k by omega] at h;have h1:=zw hu m k;have h2:4294967296 ^ k * (u.getD (m+k) 0+1)<=4294967296 ^ k * v.getD k 0:=kE _ h;rw[wn,<- jh (Nat.le_of_eq hn),jL];rw[gm] at h2;omega
theorem Lj {x y:NV} (hx:NOk x) (hy:NOk y):AP ae 187 [x.av,y.av]=some (HB x y):=by
 have lx:=hx.v_len';have ly:=hy.v_len';have hX:NOk ⟨x.z,.no,aB x.v⟩:=⟨gd _,lx,hx.z_v⟩;have hY:NOk ⟨y.z,.no,aB y.v⟩:=⟨gd _,ly,hy.z_v⟩;have e1:=tq hx.fr;have e2:=tq hy.fr;rw[show x.fr.v=x.v from rfl,show x.fr.z=x.z from rfl] at e1;rw[show y.fr.v=y.v from rfl,show y.fr.z=y.z from rfl] at e2;have e3:=vW hX hY;have vX:(NV.mk x.z .no (aB x.v)).v=x.v:=gj _;have vY:(NV.mk y.z .no (aB y.v)).v=y.v:=gj _;rw[vX,vY] at e3;have fX:=cu ⟨x.z,.no,aB x.v⟩;have fY:=cu ⟨y.z,.no,aB y.v⟩;rw[show (NV.mk x.z .no (aB x.v)).fr=⟨x.z,.no,aB x.v⟩ from rfl] at fX;rw[show (NV.mk y.z .no (aB y.v)).fr=⟨y.z,.no,aB y.v⟩ from rfl] at fY;unfold HB
 by_cases h0:y.v=0
 ·rw[an h0];refine cW _ _ (wA AA AA (jV _ _)) rfl (m:=[]) ?_;rw[G0,cw (cu x),e1,aQ,aa,cw (cu y),e2,aQ,aa,gZ,aa,me,aa,az,an (mS.2 h0)]
 ·rw[aj h0];have lF:¬ (aB y.v).length=0:=fun e=>h0 (mS.1 e)
  by_cases h1:x.v < y.v
  ·have hc:gE x.v y.v < 0:=by unfold gE;rw[an h1];omega
   refine cW _ _ (wA (qv (ll x y)) (qv (oM x y)) (jV _ _)) rfl (m:=[]) ?_ |>.trans (by rw[De,HA])
   rw[G0,cw (cu x),e1,aQ,aa,cw (cu y),e2,aQ,aa,gZ,aa,me,aa,az,aj lF,
    fP fX fY,e3,aQ,aa,bg,aa,az,an hc,cw fX,R8 hX,aQ,aa]
   unfold ll oM;rw[an h1,an h1]
   rfl
  ·have hc:¬ gE x.v y.v < 0:=by unfold gE;rw[aj h1];split<;>omega
   by_cases h2:y.v < 4294967296
   ·have lG:(aB y.v).length=1:=Hw.2 ⟨h0,h2⟩
    have MF:(aB y.v).getD 0 0=y.v:=by
     rw[yf h0,pk,kZ h2]
    have hlt:x.v % y.v < y.v:=kf _ (by omega);refine cW _ _ (wA (qv (ll x y)) (qv (oM x y)) (jV _ _)) rfl (m:=[]) ?_ |>.trans (by rw[De,HA])
    have e4:=qgg (d:=y.v) hX (by omega) h2;rw[vX] at e4
    rw[G0,cw (cu x),e1,aQ,aa,cw (cu y),e2,aQ,aa,gZ,aa,me,aa,az,aj lF,
     fP fX fY,e3,aQ,aa,bg,aa,az,aj hc,aa,vw,aa,az,an lG,Ip (by simp only[lG];omega),aa,kA,aa]
    simp only[MF];rw[fP (b:=dg y.v) (b':=dg y.v) fX (gu .u32 y.v),e4];simp only[aQ,aa,ba]
    rw[show ([NV.av ⟨false,.no,aB (x.v / y.v)⟩,dg (x.v % y.v)]:List AV)[0]?=some (NV.av ⟨false,.no,aB (x.v / y.v)⟩) from rfl,show ([NV.av ⟨false,.no,aB (x.v / y.v)⟩,dg (x.v % y.v)]:List AV)[1]?=some (dg (x.v % y.v)) from rfl,
     aa,aa,my _ (by omega),aa,cw (gu _ _),Li (by omega)]
    unfold ll oM;rw[aj h1,aj h1,an h2]
    rfl
   ·have lG:¬ (aB y.v).length=1:=fun e=>h2 (Hw.1 e).2;obtain ⟨n,hn⟩:∃ n,n=(aB y.v).length:=⟨_,rfl⟩;have mX:2<=n:=by omega
    have oS:=Hv h0;rw[<- hn] at oS;have A2:=gd y.v (n - 1);obtain ⟨z1,z2,z3⟩:=Wz (oJ oS) A2;obtain ⟨w1,w2⟩:=qoy hn.symm (by omega) z1;have hle:y.v<=x.v:=vS h1;have qpU:=kR hle;generalize hs:lz ((aB y.v).getD (n - 1) 0)=s at *;have gS:(jz (aB x.v) s (aB x.v).length).length=(aB x.v).length+1:=zh _ _ _;have VD:(jz (aB y.v) s (aB y.v).length).length=(aB y.v).length+1:=zh _ _ _;have hsu:val (jz (aB x.v) s (aB x.v).length)=2 ^ s * x.v:=by rw[YC,gj]
    have hsv:val (jz (aB y.v) s (aB y.v).length)=2 ^ s * y.v:=by rw[YC,gj]
    have US:Dg (jz (aB x.v) s (aB x.v).length):=OW (gd _) z1 _ (aR _);have Dz:Dg (jz (aB y.v) s (aB y.v).length):=OW (gd _) z1 _ (aR _);have mI:(jz (aB x.v) s (aB x.v).length).getD (aB x.v).length 0 < 2 ^ s:=OX (gd _) _ (aR _);have qlF:2 ^ s<=2 ^ 31:=pO (by omega) (by omega);obtain ⟨mm,yE⟩:∃ mm,(aB x.v).length+1=mm+n:=⟨(aB x.v).length+1 - n,by omega⟩;have hW:NOk ⟨false,.no,aB (2 ^ s * y.v)⟩:=⟨gd _,by simp only[w1];omega,by simp⟩
    have e5:AP ae 164 [(NV.mk false .no (jz (aB y.v) s (aB y.v).length)).av]=some (NV.av ⟨false,.no,aB (2 ^ s * y.v)⟩):=by
     rw[qZ _ (by simp only[VD];omega),kV Dz,hsv]
    have hp:=w0 (cp:=AP ae) (g:=164) (m:=[oc (jz (aB x.v) s (aB x.v).length),oc (jz (aB y.v) s (aB y.v).length)]) (nm:=1) (ds:=jz (aB y.v) s (aB y.v).length) rfl
    have hI:=qmk (v:=aB (2 ^ s * y.v)) (n:=n) (m:=mm) US (by omega) (qpi US w1 (by omega) (by
     rw[show mm+n - 1=(aB x.v).length by omega]
     exact qU mI (fA qlF w2)))
    obtain ⟨u',q',i1,i2⟩:=qgF ⟨false,.no,aB (2 ^ s * y.v)⟩ _ (J3 (aF ae.P f187.results.toList)) (.int .u64 s) (mm+n) n mm w1 mX (gd _) rfl (by omega) w2 mm _ _ (aR _) hI;obtain ⟨k1,k2⟩:=KInv.done (a:=aB x.v) (b:=aB y.v) z1 (by omega) (by rw[hsu,gj]) (by rw[gj,gj]) i1;rw[gj,gj] at k1 k2;have yB:=i1.lq;have Vj:=i1.lu;have i3:=qgJ u' q' (J7 (aF ae.P f187.results.toList)) (.arr 2 0 mm none) s (mm+n) n i1.du Vj (by omega) (by omega) z1 n 0 (by omega);have p1:=w0 (cp:=AP ae) (g:=164) (m:=M3 u' q'++[oc (kW u' s n)]) (nm:=2) (ds:=q') rfl;have p2:=w0 (cp:=AP ae) (g:=164) (m:=(M3 u' q'++[oc (kW u' s n)]).set 2 none) (nm:=3) (ds:=kW u' s n) rfl;rw[yB] at p1;rw[EF] at p2;have f1:=tq (x:=⟨false,.no,q'⟩) ⟨i1.dq,by simp only[yB];omega,by simp⟩;have f2:=tq (x:=⟨false,.no,kW u' s n⟩) ⟨Js i1.du z1 n,by simp only[EF];omega,by simp⟩;rw[NV.v,<- kV i1.dq,k1] at f1;rw[NV.v,<- kV (Js i1.du z1 n),k2] at f2;refine cW _ _ (wA (qv (ll x y)) (qv (oM x y)) (jV _ _)) rfl (m:=[oc u',none,none,none]) ?_ |>.trans (by rw[De,HA])
    rw[G0,cw (cu x),e1,aQ,aa,cw (cu y),e2,aQ,aa,gZ,aa,me,aa,az,aj lF,
     fP fX fY,e3,aQ,aa,bg,aa,az,aj hc,aa,vw,aa,az,aj lG,
     aa,oC (by simp only[];omega) (by simp only[];omega),aa,ma (by simp only[];omega),aa,kA,aa]
    simp only[show (aB y.v).getD ((aB y.v).length - 1) 0=(aB y.v).getD (n - 1) 0 by rw[hn]];rw[cw (a:=dg ((aB y.v).getD (n - 1) 0)) (a':=dg ((aB y.v).getD (n - 1) 0)) (gu _ _),qgh (oJ oS) A2,aQ,aa,hs,C7 (by omega),aa,Sf [] hX z1,aa,Sf _ hY z1,aa];simp only[bE,aM,aJ,bQ];rw[VD] at hp;rw[hp,e5,aQ,aa,gZ,aa,qms,aa];simp only[w1,yE];rw[nc (by omega) (by omega),aa,pn,wX (by omega) (by omega),aa,aa,nc (by omega) (by omega),aa,pn,tY (by omega),aa]
    refine Eq.trans ?_ (i2.trans ?_)
    ·rfl
    rw[qcN,wX (by omega) (by omega),aa]
    refine Eq.trans ?_ (i3.trans ?_)
    ·rfl
    rw[qc6,p1,f1,aQ,aa,p2,f2,aQ,aa];unfold ll oM;rw[aj h1,aj h1,aj h2]
    rfl
end Go.Ab
