/- The greatest common divisor and the binary digits of nat, in values. -/
import Derived.Test.YtiipgpkgcdhbfaaGreatDoorEP3
import Derived.Test.YtiipgpkgcdhbfaaGreatDoorEP2
set_option maxRecDepth 100000
set_option linter.unusedVariables false
set_option linter.unusedSimpArgs false
set_option linter.unusedSectionVars false
namespace Go.Ab
open Go.Proofs.Tryz
def lr (x y:NV):NV:=⟨if Nat.gcd x.v y.v=0 then x.z else false,qF (Nat.gcd x.v y.v),aB (Nat.gcd x.v y.v)⟩
theorem qgD (K:KT) (m:af):∀ (n:Nat) (a b:NV),NOk a->NOk b->a.ds=aB a.v->b.ds=aB b.v->b.v=n->a.fr=a->b.fr=b ->
  ∃ c:NV,NOk c/\c.ds=aB (Nat.gcd a.v b.v)/\c.fr=c/\(b.v=0->c.z=a.z)/\Gc a.av b.av m K=K (.exit 0) (KL c.av m):=by
 intro n
 induction n using Nat.strongRecOn with
 | ind n ih=>
  intro a b ha hb ca cb hn fa fb;have fza:=cu a;have fzb:=cu b;rw[fa] at fza;rw[fb] at fzb;rw[qeU,gZ,aa,vx,aa,az]
  by_cases h:b.v=0
  ·have hl:¬ b.ds.length > 0:=by rw[cb,h,lh];simp
   rw[aj hl];exact ⟨a,ha,by rw[h,Nat.gcd_zero_right];exact ca,fa,fun _=>rfl,rfl⟩
  ·have hl:b.ds.length > 0:=by
    rw[cb];have:(aB b.v).length≠0:=fun e=>h (mS.1 e);omega
   rw[an hl,fP fza fzb,Lj ha hb,HB,aj h];simp only[aQ,aa];have hlt:a.v % b.v < b.v:=kf _ (oJ h);obtain ⟨c,c1,c2,c3,c4,c5⟩:=ih (a.v % b.v) (by omega) b (oM a b) hb (qj2 ha) cb (by rw[Hz,LU]) (LU a b) fb (HA a b);rw[LU] at c2;refine ⟨c,c1,?_,c3,fun e=>absurd e h,c5⟩;rw[c2,uE b.v,<- Nat.gcd_rec,uE]
theorem Se {x y:NV} (hx:NOk x) (hy:NOk y):AP ae 183 [x.av,y.av]=some (lr x y).av:=by
 have lx:=hx.v_len';have ly:=hy.v_len';have hX:NOk ⟨x.z,.no,aB x.v⟩:=⟨gd _,lx,hx.z_v⟩;have hY:NOk ⟨y.z,.no,aB y.v⟩:=⟨gd _,ly,hy.z_v⟩;have e1:=tq hx.fr;have e2:=tq hy.fr;rw[show x.fr.v=x.v from rfl,show x.fr.z=x.z from rfl] at e1;rw[show y.fr.v=y.v from rfl,show y.fr.z=y.z from rfl] at e2;have vX:(NV.mk x.z .no (aB x.v)).v=x.v:=gj _;have vY:(NV.mk y.z .no (aB y.v)).v=y.v:=gj _;obtain ⟨⟨cz,co,cd⟩,c1,c2,c3,c4,c5⟩:=qgD (J1 (aF ae.P f183.results.toList)) [] _ _ _ hX hY (by rw[vX]) (by rw[vY]) rfl rfl rfl;rw[vX,vY] at c2;rw[vY] at c4;simp only at c2 c4;subst c2
 have hz:cz=if Nat.gcd x.v y.v=0 then x.z else false:=by
  split
  ·rename_i h;exact c4 (Nat.eq_zero_of_gcd_eq_zero_right h)
  ·rename_i h;have h5:=c1.nil;simp only at h5
   cases cz with
   | false=>rfl
   | true=>exact absurd (EM.1 (h5 rfl)) h
 refine iH (v:=(NV.mk cz (qF (Nat.gcd x.v y.v)) (aB (Nat.gcd x.v y.v))).av) (m:=[]) ?_ (by rw[cu];simp only[NV.fr,IP];rw[lr,<- hz]) (by simp[lr,NV.av,iQ]);rw[qfQ,cw (cu x),e1,aQ,aa,cw (cu y),e2,aQ,aa];refine c5.trans ?_;rw[qcH,cw (cu _),c3,R8 c1]
 rfl
theorem TM {a b:Nat} (h:(aB a).length < 2 ^ 40) (h':(aB b).length < 2 ^ 40):(aB (Nat.gcd a b)).length < 2 ^ 40:=by
 by_cases ha:a=0
 ·rw[ha,Nat.gcd_zero_left];exact h'
 ·exact jr (kR (Nat.gcd_le_left _ (oJ ha))) h
theorem Um {x y:NV} (hx:NOk x) (hy:NOk y):NOk (lr x y):=by
 refine ⟨gd _,TM hx.v_len' hy.v_len',?_⟩;unfold lr;simp only
 split
 ·rename_i h;intro _;rw[h];exact lh
 ·intro h;cases h
theorem Un (x y:NV):(lr x y).v=Nat.gcd x.v y.v:=gj _
theorem qkI (x y:NV):(lr x y).fr=lr x y:=by unfold lr NV.fr;simp only[IP]
end Go.Ab
namespace Go.Ab
noncomputable section
open Go.Proofs.Tryz
theorem T72 (a0:AV) (m:af):AC ae 72 [a0] m=(bm .u32 a0).bind fun v1=>(ag .other .shr a0 (.int .u64 32)).bind fun v2=>(bm .u32 v2).bind fun v3=>(fh none [v1,v3]).bind fun v4=>(aD (AP ae) none m 133 [v4]).bind fun r5=>some (r5.1,r5.2):=
(bh ae 72 [a0] m (fn:=f72) (c:=aC f72) qiU rfl).trans (by kernel_rfl)
def K4 (x5:AV) (m:af):St:=⟨(aP (aH (x5::br (aO (aH []))))),m⟩
def Gn (x0 x1 x5 x6:AV) (m:af) (K:KT):OM:=b8 75 (ck (c2 (c2 (c2 (aC f75))))) 4 (x0::x1::aO (aH (x5::x6::br (aO [])))) m K
def K5 (x0 x1 x5 x6 x7:AV) (m:af):St:=⟨(x0::x1::aO (aH (x5::x6::x7::br (aH [])))),m⟩
def Gp (x0 x1 x5 x6 x7 x8:AV) (m:af) (K:KT):OM:=b8 75 (ck (wj (ck (c2 (c2 (c2 (aC f75))))))) 8 (x0::x1::aO (aH (x5::x6::x7::x8::br []))) m K
abbrev qed (K:KT):KT:=bF 75 (bo (aC f75)) K
abbrev qee (K:KT):KT:=bu 0 (qed K)
abbrev Kd (K:KT):KT:=(qee K)
abbrev qeg (K:KT):KT:=bF 75 (lS (pU (c2 (aC f75)))) (oH 75 (ck (c2 (c2 (c2 (aC f75))))) 4 K)
abbrev qeh (K:KT):KT:=bu 1 (qeg K)
abbrev qei (K:KT):KT:=bF 75 (lS (wj (Db (aC f75)))) (qeh K)
abbrev qej (K:KT):KT:=bu 2 (qei K)
abbrev Ke (K:KT):KT:=(qej K)
theorem T75 (a0 a1:AV) (m:af):AC ae 75 [a0,a1] m=(aD (AP ae) none m 133 [a0]).bind fun r1=>(aD (AP ae) none r1.2 133 [a1]).bind fun r2=>(aK false r1.1).bind fun v3=>(aK false r2.1).bind fun v4=>(ag .other .add v3 v4).bind fun v5=>(iV none 161 none (.int .u32 0) 4 r2.2 v5 v5).bind fun r6=>Gn r1.1 r2.1 r6.1 (.int .i64 0) r6.2 (Kd (aF ae.P f75.results.toList)):=
(bh ae 75 [a0,a1] m (fn:=f75) (c:=aC f75) qiX rfl).trans (by kernel_rfl)
theorem Q4 (x0 x1 x5 x6:AV) (m:af) (K:KT):Gn x0 x1 x5 x6 m K=(aK false x0).bind fun v1=>(ag .other .lss x6 v1).bind fun v2=>aw v2 (Gp x0 x1 x5 x6 (.int .u64 0) (.int .i64 0) m (Ke K)) (K (.exit 0) (K4 x5 m)):=
(b7 (bX _) _ _ _).trans (by kernel_rfl)
theorem Q5 (x0 x1 x5 x6 x7 x8:AV) (m:af) (K:KT):Gp x0 x1 x5 x6 x7 x8 m K=(aK false x1).bind fun v1=>(ag .other .lss x8 v1).bind fun v2=>aw v2 ((aG none x0 x6).bind fun v3=>(ai none m v3).bind fun v4=>(bm .u64 v4).bind fun v5=>(aG none x1 x8).bind fun v6=>(ai none m v6).bind fun v7=>(bm .u64 v7).bind fun v8=>(ag .other .mul v5 v8).bind fun v9=>(ag .other .add x6 x8).bind fun v10=>(aG none x5 v10).bind fun v11=>(ai none m v11).bind fun v12=>(bm .u64 v12).bind fun bp=>(ag .other .add v9 bp).bind fun bj=>(ag .other .add bj x7).bind fun bn=>(ag .other .add x6 x8).bind fun bO=>(ag .other .rem bn (.int .u64 4294967296)).bind fun bB=>(bm .u32 bB).bind fun fk=>(aG none x5 bO).bind fun eU=>(aN none m eU fk).bind fun m20=>(ag .other .quo bn (.int .u64 4294967296)).bind fun v21=>(ag .other .add x8 (.int .i64 1)).bind fun v22=>Gp x0 x1 x5 x6 v21 v22 m20 K) (K (.exit 2) (K5 x0 x1 x5 x6 x7 m)):=
(b7 (bX _) _ _ _).trans (by kernel_rfl)
theorem qef (x5:AV) (m:af):Kd (aF ae.P f75.results.toList) (.exit 0) (K4 x5 m)=(aD (AP ae) none m 133 [x5]).bind fun r1=>some (r1.1,r1.2):=by kernel_rfl
theorem qek (x0 x1 x5 x6 x7:AV) (m:af) (K:KT):Ke K (.exit 2) (K5 x0 x1 x5 x6 x7 m)=(aK false x1).bind fun v1=>(ag .other .add x6 v1).bind fun v2=>(bm .u32 x7).bind fun v3=>(aG none x5 v2).bind fun v4=>(aN none m v4 v3).bind fun m5=>(ag .other .add x6 (.int .i64 1)).bind fun v6=>Gn x0 x1 x5 v6 m5 K:=by kernel_rfl
def GL (x5:AV) (m:af):St:=⟨(aP (aH (x5::bI (aP (aO []))))),m⟩
def uv (x0 x1 x5 x6 x7:AV) (m:af) (K:KT):OM:=b8 76 (ck (c2 (c2 (c2 (aC f76))))) 4 (x0::x1::aO (aH (x5::x6::x7::bI (aP [])))) m K
abbrev qel (K:KT):KT:=bF 76 (bo (aC f76)) K
abbrev qem (K:KT):KT:=bu 0 (qel K)
abbrev Kf (K:KT):KT:=(qem K)
theorem T76 (a0 a1:AV) (m:af):AC ae 76 [a0,a1] m=uv a0 a1 au (.int .u64 0) (.int .i64 0) m (Kf (aF ae.P f76.results.toList)):=
(bh ae 76 [a0,a1] m (fn:=f76) (c:=aC f76) qiY rfl).trans (by kernel_rfl)
theorem Kl (x0 x1 x5 x6 x7:AV) (m:af) (K:KT):uv x0 x1 x5 x6 x7 m K=(aK false x0).bind fun v1=>(ag .other .lss x7 v1).bind fun v2=>aw v2 ((aD (AP ae) none m 135 [x0,x7]).bind fun r3=>(aD (AP ae) none r3.2 135 [x1,x7]).bind fun r4=>(ag .other .add r3.1 r4.1).bind fun v5=>(ag .other .add v5 x6).bind fun v6=>(ag .other .rem v6 (.int .u64 4294967296)).bind fun v7=>(bm .u32 v7).bind fun v8=>(fh none [v8]).bind fun v9=>(cg none false 161 none 4 r4.2 x5 v9).bind fun iE=>(ag .other .quo v6 (.int .u64 4294967296)).bind fun v11=>(ag .other .add x7 (.int .i64 1)).bind fun v12=>uv x0 x1 iE.1 v11 v12 iE.2 K) ((aK false x1).bind fun bp=>(ag .other .lss x7 bp).bind fun bj=>aw bj ((aD (AP ae) none m 135 [x0,x7]).bind fun nL=>(aD (AP ae) none nL.2 135 [x1,x7]).bind fun gV=>(ag .other .add nL.1 gV.1).bind fun bB=>(ag .other .add bB x6).bind fun fk=>(ag .other .rem fk (.int .u64 4294967296)).bind fun eU=>(bm .u32 eU).bind fun v20=>(fh none [v20]).bind fun v21=>(cg none false 161 none 4 gV.2 x5 v21).bind fun I1=>(ag .other .quo fk (.int .u64 4294967296)).bind fun v23=>(ag .other .add x7 (.int .i64 1)).bind fun v24=>uv x0 x1 I1.1 v23 v24 I1.2 K) ((ag .other .gtr x6 (.int .u64 0)).bind fun v25=>aw v25 ((aD (AP ae) none m 135 [x0,x7]).bind fun qG=>(aD (AP ae) none qG.2 135 [x1,x7]).bind fun Es=>(ag .other .add qG.1 Es.1).bind fun v28=>(ag .other .add v28 x6).bind fun j9=>(ag .other .rem j9 (.int .u64 4294967296)).bind fun v30=>(bm .u32 v30).bind fun v31=>(fh none [v31]).bind fun mN=>(cg none false 161 none 4 Es.2 x5 mN).bind fun vE=>(ag .other .quo j9 (.int .u64 4294967296)).bind fun qN=>(ag .other .add x7 (.int .i64 1)).bind fun ml=>uv x0 x1 vE.1 qN ml vE.2 K) (K (.exit 0) (GL x5 m)))):=
(b7 (bX _) _ _ _).trans (by kernel_rfl)
theorem qen (x5:AV) (m:af):Kf (aF ae.P f76.results.toList) (.exit 0) (GL x5 m)=(aD (AP ae) none m 133 [x5]).bind fun r1=>some (r1.1,r1.2):=by kernel_rfl
def K6 (m:af):St:=⟨(bI (aY (aP (aH [])))),m⟩
def GW (x4:AV) (m:af):St:=⟨(aP (x4::bI (aY []))),m⟩
def Gq (x0 x1 x5:AV) (m:af) (K:KT):OM:=b8 77 (ck (c2 (c2 (c2 (aC f77))))) 7 (x0::x1::aO (aH (x5::bI (aP (aO (aH [])))))) m K
abbrev qeo (K:KT):KT:=bF 77 (bo (aC f77)) K
abbrev qep (K:KT):KT:=bu 0 (qeo K)
abbrev FC (K:KT):KT:=(qep K)
theorem T77 (a0 a1:AV) (m:af):AC ae 77 [a0,a1] m=(aD (AP ae) none m 133 [a0]).bind fun r1=>(aD (AP ae) none r1.2 133 [a1]).bind fun r2=>(aK false r1.1).bind fun v3=>(aK false r2.1).bind fun v4=>(ag .other .neq v3 v4).bind fun v5=>aw v5 ((aK false r1.1).bind fun v6=>(aK false r2.1).bind fun v7=>(ag .other .lss v6 v7).bind fun v8=>aw v8 (some ((.int .i64 (-1)),r2.2)) (some ((.int .i64 1),r2.2))) ((aK false r1.1).bind fun v9=>(ag .other .sub v9 (.int .i64 1)).bind fun v10=>Gq r1.1 r2.1 v10 r2.2 (FC (aF ae.P f77.results.toList))):=
(bh ae 77 [a0,a1] m (fn:=f77) (c:=aC f77) qiZ rfl).trans (by kernel_rfl)
theorem Q6 (x0 x1 x5:AV) (m:af) (K:KT):Gq x0 x1 x5 m K=(ag .other .geq x5 (.int .i64 0)).bind fun v1=>aw v1 ((aG none x0 x5).bind fun v2=>(ai none m v2).bind fun v3=>(aG none x1 x5).bind fun v4=>(ai none m v4).bind fun v5=>(ag .other .neq v3 v5).bind fun v6=>aw v6 ((aG none x0 x5).bind fun v7=>(ai none m v7).bind fun v8=>(aG none x1 x5).bind fun v9=>(ai none m v9).bind fun v10=>(ag .other .lss v8 v10).bind fun v11=>aw v11 (K .ret (GW (.int .i64 (-1)) m)) (K .ret (GW (.int .i64 1) m))) ((ag .other .sub x5 (.int .i64 1)).bind fun v12=>Gq x0 x1 v12 m K)) (K (.exit 0) (K6 m)):=
(b7 (bX _) _ _ _).trans (by kernel_rfl)
theorem qer (m:af):FC (aF ae.P f77.results.toList) (.exit 0) (K6  m)=some ((.int .i64 0),m):=by kernel_rfl
theorem qeq (x4:AV) (m:af):FC (aF ae.P f77.results.toList) .ret (GW x4 m)=some (x4,m):=by kernel_rfl
def K7 (x6:AV) (m:af):St:=⟨(aP (aO (x6::bI (aP (aH []))))),m⟩
def Cq (x0 x1 x6 x7 x8:AV) (m:af) (K:KT):OM:=b8 78 (ck (bo (aC f78))) 6 (x0::x1::aP (x6::x7::x8::bI (aO (aH [])))) m K
abbrev qes (K:KT):KT:=bF 78 (bo (c2 (aC f78))) K
abbrev qet (K:KT):KT:=bu 0 (qes K)
abbrev P6 (K:KT):KT:=(qet K)
theorem RT (a0 a1:AV) (m:af):AC ae 78 [a0,a1] m=(aD (AP ae) none m 77 [a0,a1]).bind fun r1=>(ag .other .lss r1.1 (.int .i64 0)).bind fun v2=>aw v2 (some ((.tup [au,(.int .i64 1)]),r1.2)) (Cq a0 a1 au (.int .u64 0) (.int .i64 0) r1.2 (P6 (aF ae.P f78.results.toList))):=
(bh ae 78 [a0,a1] m (fn:=f78) (c:=aC f78) qi0 rfl).trans (by kernel_rfl)
theorem Q7 (x0 x1 x6 x7 x8:AV) (m:af) (K:KT):Cq x0 x1 x6 x7 x8 m K=(aK false x0).bind fun v1=>(ag .other .lss x8 v1).bind fun v2=>aw v2 ((aD (AP ae) none m 135 [x1,x8]).bind fun r3=>(ag .other .add r3.1 x7).bind fun v4=>(aD (AP ae) none r3.2 135 [x0,x8]).bind fun r5=>(ag .other .lss r5.1 v4).bind fun v6=>aw v6 ((aD (AP ae) none r5.2 135 [x0,x8]).bind fun r7=>(ag .other .mul (.int .u64 1) (.int .u64 4294967296)).bind fun v8=>(ag .other .add r7.1 v8).bind fun v9=>(ag .other .sub v9 v4).bind fun v10=>(bm .u32 v10).bind fun v11=>(fh none [v11]).bind fun v12=>(cg none false 161 none 4 r7.2 x6 v12).bind fun fW=>(ag .other .add x8 (.int .i64 1)).bind fun bj=>Cq x0 x1 fW.1 (.int .u64 1) bj fW.2 K) ((aD (AP ae) none r5.2 135 [x0,x8]).bind fun nL=>(ag .other .mul (.int .u64 0) (.int .u64 4294967296)).bind fun bO=>(ag .other .add nL.1 bO).bind fun bB=>(ag .other .sub bB v4).bind fun fk=>(bm .u32 fk).bind fun eU=>(fh none [eU]).bind fun v20=>(cg none false 161 none 4 nL.2 x6 v20).bind fun ue=>(ag .other .add x8 (.int .i64 1)).bind fun v22=>Cq x0 x1 ue.1 (.int .u64 0) v22 ue.2 K)) (K (.exit 0) (K7 x6 m)):=
(b7 (bX _) _ _ _).trans (by kernel_rfl)
theorem qeu (x6:AV) (m:af):P6 (aF ae.P f78.results.toList) (.exit 0) (K7 x6 m)=(aD (AP ae) none m 133 [x6]).bind fun r1=>some ((.tup [r1.1,(.int .i64 0)]),r1.2):=by kernel_rfl
theorem qfh (a0:AV) (m:af):AC ae 118 [a0] m=(aK false a0).bind fun v1=>(ag .other .eql v1 (.int .i64 0)).bind fun v2=>aw v2 (some ((.bool true),m)) ((aK false a0).bind fun v3=>(ag .other .sub v3 (.int .i64 1)).bind fun v4=>(aG none a0 v4).bind fun v5=>(ai none m v5).bind fun v6=>(ag .other .neq v6 (.int .u32 0)).bind fun v7=>some (v7,m)):=
(bh ae 118 [a0] m (fn:=f118) (c:=aC f118) qhw rfl).trans (by kernel_rfl)
def Ku (x5:AV) (m:af):St:=⟨(aP (aH (x5::br (aY (aP (aO [])))))),m⟩
def FL (x5 x7:AV) (m:af) (K:KT):OM:=b8 119 (TG (pU (c2 (c2 (aC f119))))) 5 (aP (aH (x5::aH (x7::br (aY (aP [])))))) m K
def GD (x0 x1 x9:AV) (m:af):St:=⟨(x0::x1::aP (aO (aH (x9::br (aY (aO [])))))),m⟩
def zL (x0 x1 x9:AV) (m:af) (K:KT):OM:=b8 119 (nq (bo (c2 (c2 (c2 (aC f119)))))) 13 (x0::x1::aP (aO (aH (x9::br (aY (aO [])))))) m K
def Kr (x0 x9:AV) (m:af):St:=⟨(x0::aY (x9::br (aY (aO [])))),m⟩
def Cb (x0 x1 x9:AV) (m:af) (K:KT):OM:=b8 119 (nq (bo (bo (aC f119)))) 15 (x0::x1::aP (aO (aH (x9::br (aY (aO [])))))) m K
def Ks (x0 x1 x9:AV) (m:af):St:=⟨(x0::x1::aP (aO (aH (x9::br (aY (aO [])))))),m⟩
def FJ (x0 x1 x9:AV) (m:af) (K:KT):OM:=b8 119 (TG (qjV (bo (bo (c2 (aC f119)))))) 16 (x0::x1::aP (aO (aH (x9::br (aY (aO [])))))) m K
def Kt (x0 x1 x9:AV) (m:af):St:=⟨(x0::x1::aP (aO (aH (x9::br (aY (aO [])))))),m⟩
def FK (x0 x1 x9:AV) (m:af) (K:KT):OM:=b8 119 (nq (Ht (Db (bo (c2 (c2 (aC f119))))))) 18 (x0::x1::aP (aO (aH (x9::br (aY (aO [])))))) m K
abbrev qaL (K:KT):KT:=bF 119 (bo (c2 (aC f119))) K
abbrev qaM (K:KT):KT:=bF 119 (Dc (bo (aC f119))) (qaL K)
abbrev qaN (K:KT):KT:=bu 0 (qaM K)
abbrev PY (K:KT):KT:=(qaN K)
abbrev qax (K:KT):KT:=bF 119 (bo (bo (c2 (aC f119)))) K
abbrev qay (K:KT):KT:=bu 2 (qax K)
abbrev B3 (K:KT):KT:=(qay K)
abbrev qaD (K:KT):KT:=bu 5 (oH 119 (nq (bo (bo (aC f119)))) 15 K)
abbrev qaE (K:KT):KT:=bF 119 (Dc (uO (bo (c2 (c2 (c2 (aC f119))))))) (qaD K)
abbrev qaF (K:KT):KT:=bu 6 (qaE K)
abbrev JK (K:KT):KT:=(qaF K)
abbrev qaA (K:KT):KT:=bF 119 (bo (bo (c2 (c2 (aC f119))))) K
abbrev qaB (K:KT):KT:=bu 4 (qaA K)
abbrev PX (K:KT):KT:=(qaB K)
abbrev qaH (K:KT):KT:=bu 5 (oH 119 (nq (bo (bo (aC f119)))) 15 K)
abbrev qaI (K:KT):KT:=bF 119 (LM (nq (bo (bo (aC f119))))) (qaH K)
abbrev qaJ (K:KT):KT:=bu 8 (qaI K)
abbrev JL (K:KT):KT:=(qaJ K)
theorem qfi (a0 a1:AV) (m:af):AC ae 119 [a0,a1] m=(aD (AP ae) none m 133 [a0]).bind fun r1=>(aD (AP ae) none r1.2 133 [a1]).bind fun r2=>(aD (AP ae) none r2.2 155 [r1.1]).bind fun r3=>(ba r3.1 0).bind fun v4=>(ba r3.1 1).bind fun v5=>(aD (AP ae) none r3.2 155 [r2.1]).bind fun r6=>(ba r6.1 0).bind fun v7=>(ba r6.1 1).bind fun v8=>aw v5 (aw v8 (FL v4 v7 r6.2 (PY (aF ae.P f119.results.toList))) ((aK false r1.1).bind fun v9=>(ag .other .eql v9 (.int .i64 0)).bind fun v10=>aw v10 (some (r2.1,r6.2)) ((aK false r2.1).bind fun v11=>(ag .other .eql v11 (.int .i64 0)).bind fun v12=>aw v12 (some (r1.1,r6.2)) ((aD (AP ae) none r6.2 72 [(.int .u64 1)]).bind fun fW=>zL r1.1 r2.1 fW.1 fW.2 (B3 (aF ae.P f119.results.toList)))))) ((aK false r1.1).bind fun bj=>(ag .other .eql bj (.int .i64 0)).bind fun bn=>aw bn (some (r2.1,r6.2)) ((aK false r2.1).bind fun bO=>(ag .other .eql bO (.int .i64 0)).bind fun bB=>aw bB (some (r1.1,r6.2)) ((aD (AP ae) none r6.2 72 [(.int .u64 1)]).bind fun iJ=>zL r1.1 r2.1 iJ.1 iJ.2 (B3 (aF ae.P f119.results.toList))))):=
(bh ae 119 [a0,a1] m (fn:=f119) (c:=aC f119) qhx rfl).trans (by kernel_rfl)
theorem qeO (x5 x7:AV) (m:af) (K:KT):FL x5 x7 m K=(ag .other .neq x7 (.int .u64 0)).bind fun v1=>aw v1 ((ag .other .rem x5 x7).bind fun v2=>FL x7 v2 m K) (K (.exit 0) (Ku x5 m)):=
(b7 (bX _) _ _ _).trans (by kernel_rfl)
theorem qeK (x0 x1 x9:AV) (m:af) (K:KT):zL x0 x1 x9 m K=(aD (AP ae) none m 156 [x0]).bind fun r1=>aw r1.1 ((aD (AP ae) none r1.2 156 [x1]).bind fun r2=>aw r2.1 ((aD (AP ae) none r2.2 157 [x0]).bind fun r3=>(aD (AP ae) none r3.2 157 [x1]).bind fun r4=>(aD (AP ae) none r4.2 76 [x9,x9]).bind fun r5=>zL r3.1 r4.1 r5.1 r5.2 K) (K (.exit 2) (GD x0 x1 x9 r2.2))) (K (.exit 2) (GD x0 x1 x9 r1.2)):=
(b7 (bX _) _ _ _).trans (by kernel_rfl)
theorem qeL (x0 x1 x9:AV) (m:af) (K:KT):Cb x0 x1 x9 m K=(aK false x1).bind fun v1=>(ag .other .gtr v1 (.int .i64 0)).bind fun v2=>aw v2 (FJ x0 x1 x9 m (JK K)) (K (.exit 4) (Kr x0 x9 m)):=
(b7 (bX _) _ _ _).trans (by kernel_rfl)
theorem qeM (x0 x1 x9:AV) (m:af) (K:KT):FJ x0 x1 x9 m K=(aD (AP ae) none m 156 [x0]).bind fun r1=>aw r1.1 ((aD (AP ae) none r1.2 157 [x0]).bind fun r2=>FJ r2.1 x1 x9 r2.2 K) (K (.exit 6) (Ks x0 x1 x9 r1.2)):=
(b7 (bX _) _ _ _).trans (by kernel_rfl)
theorem qeN (x0 x1 x9:AV) (m:af) (K:KT):FK x0 x1 x9 m K=(aD (AP ae) none m 156 [x1]).bind fun r1=>aw r1.1 ((aD (AP ae) none r1.2 157 [x1]).bind fun r2=>FK x0 r2.1 x9 r2.2 K) (K (.exit 8) (Kt x0 x1 x9 r1.2)):=
(b7 (bX _) _ _ _).trans (by kernel_rfl)
theorem qaO (x5:AV) (m:af):PY (aF ae.P f119.results.toList) (.exit 0) (Ku x5 m)=(aD (AP ae) none m 72 [x5]).bind fun r1=>some (r1.1,r1.2):=by kernel_rfl
theorem qaz (x0 x1 x9:AV) (m:af):B3 (aF ae.P f119.results.toList) (.exit 2) (GD x0 x1 x9 m)=Cb x0 x1 x9 m (PX (aF ae.P f119.results.toList)):=by kernel_rfl
theorem qaG (x0 x1 x9:AV) (m:af) (K:KT):JK K (.exit 6) (Ks x0 x1 x9 m)=FK x0 x1 x9 m (JL K):=by kernel_rfl
theorem qaC (x0 x9:AV) (m:af):PX (aF ae.P f119.results.toList) (.exit 4) (Kr x0 x9 m)=(aD (AP ae) none m 75 [x0,x9]).bind fun r1=>some (r1.1,r1.2):=by kernel_rfl
theorem qaK (x0 x1 x9:AV) (m:af) (K:KT):JL K (.exit 8) (Kt x0 x1 x9 m)=(aD (AP ae) none m 77 [x0,x1]).bind fun r1=>(ag .other .gtr r1.1 (.int .i64 0)).bind fun v2=>aw v2 ((aD (AP ae) none r1.2 78 [x0,x1]).bind fun r3=>(ba r3.1 0).bind fun v4=>(ba r3.1 1).bind fun v5=>Cb x1 v4 x9 r3.2 K) ((aD (AP ae) none r1.2 78 [x1,x0]).bind fun r6=>(ba r6.1 0).bind fun v7=>(ba r6.1 1).bind fun v8=>Cb x0 v7 x9 r6.2 K):=by kernel_rfl
def GG (x0 x3:AV) (m:af):St:=⟨(x0::aO (x3::bD (aO []))),m⟩
def FT (x0 x3:AV) (m:af) (K:KT):OM:=b8 133 (nq (c2 (aC f133))) 2 (x0::aO (x3::bD (aO []))) m K
abbrev qbr (K:KT):KT:=bF 133 (c2 (c2 (c2 (aC f133)))) K
abbrev qbs (K:KT):KT:=bu 0 (qbr K)
abbrev P0 (K:KT):KT:=(qbs K)
theorem qft (a0:AV) (m:af):AC ae 133 [a0] m=(aK false a0).bind fun v1=>FT a0 v1 m (P0 (aF ae.P f133.results.toList)):=
(bh ae 133 [a0] m (fn:=f133) (c:=aC f133) qhJ rfl).trans (by kernel_rfl)
theorem Qo (x0 x3:AV) (m:af) (K:KT):FT x0 x3 m K=(ag .other .gtr x3 (.int .i64 0)).bind fun v1=>aw v1 ((ag .other .sub x3 (.int .i64 1)).bind fun v2=>(aG none x0 v2).bind fun v3=>(ai none m v3).bind fun v4=>(ag .other .eql v4 (.int .u32 0)).bind fun v5=>aw v5 ((ag .other .sub x3 (.int .i64 1)).bind fun v6=>FT x0 v6 m K) (K (.exit 0) (GG x0 x3 m))) (K (.exit 0) (GG x0 x3 m)):=
(b7 (bX _) _ _ _).trans (by kernel_rfl)
theorem qbt (x0 x3:AV) (m:af):P0 (aF ae.P f133.results.toList) (.exit 0) (GG x0 x3 m)=(kU none x0 none (some x3) none).bind fun v1=>(cg none false 161 none 4 m au v1).bind fun r2=>some (r2.1,r2.2):=by kernel_rfl
theorem qfv (a0 a1:AV) (m:af):AC ae 135 [a0,a1] m=(aK false a0).bind fun v1=>(ag .other .lss a1 v1).bind fun v2=>aw v2 ((aG none a0 a1).bind fun v3=>(ai none m v3).bind fun v4=>(bm .u64 v4).bind fun v5=>some (v5,m)) (some ((.int .u64 0),m)):=
(bh ae 135 [a0,a1] m (fn:=f135) (c:=aC f135) qhL rfl).trans (by kernel_rfl)
def KB (x3:AV) (m:af):St:=⟨(aO (aH (x3::bD (aP (aO (aH [])))))),m⟩
def FU (x3 x4:AV) (m:af) (K:KT):OM:=b8 136 (ck (bo (aC f136))) 6 (aO (aH (x3::x4::bD (aP (aO []))))) m K
abbrev qbu (K:KT):KT:=bF 136 (bo (c2 (aC f136))) K
abbrev qbv (K:KT):KT:=bu 0 (qbu K)
abbrev JR (K:KT):KT:=(qbv K)
theorem RJ (a0:AV) (m:af):AC ae 136 [a0] m=(aD (AP ae) none m 133 [a0]).bind fun r1=>(aK false r1.1).bind fun v2=>(ag .other .eql v2 (.int .i64 0)).bind fun v3=>aw v3 (some ((.int .i64 0),r1.2)) ((aK false r1.1).bind fun v4=>(ag .other .sub v4 (.int .i64 1)).bind fun v5=>(ag .other .mul (.int .i64 32) v5).bind fun v6=>(aK false r1.1).bind fun v7=>(ag .other .sub v7 (.int .i64 1)).bind fun v8=>(aG none r1.1 v8).bind fun v9=>(ai none r1.2 v9).bind fun v10=>FU v6 v10 r1.2 (JR (aF ae.P f136.results.toList))):=
(bh ae 136 [a0] m (fn:=f136) (c:=aC f136) qhM rfl).trans (by kernel_rfl)
theorem Qp (x3 x4:AV) (m:af) (K:KT):FU x3 x4 m K=(ag .other .gtr x4 (.int .u32 0)).bind fun v1=>aw v1 ((ag .other .add x3 (.int .i64 1)).bind fun v2=>(ag .other .quo x4 (.int .u32 2)).bind fun v3=>FU v2 v3 m K) (K (.exit 0) (KB x3 m)):=
(b7 (bX _) _ _ _).trans (by kernel_rfl)
theorem qbw (x3:AV) (m:af):JR (aF ae.P f136.results.toList) (.exit 0) (KB x3 m)=some (x3,m):=by kernel_rfl
def KC (x0 x9:AV) (m:af):St:=⟨(x0::aY (x9::br (bD (aY [])))),m⟩
def FV (x0 x1 x9 aE:AV) (m:af) (K:KT):OM:=b8 137 (ck (bo (c2 (c2 (aC f137))))) 11 (x0::x1::aP (aO (aH (x9::aE::br (bD (aP (aO (aH [])))))))) m K
def KD (x0 x1 x9 aE aW:AV) (m:af):St:=⟨(x0::x1::aP (aO (aH (x9::aE::aW::br (bD (aP (aO []))))))),m⟩
def Ce (x0 x1 x9 aE aW aL:AV) (m:af) (K:KT):OM:=b8 137 (nq (ck (nr (bo (c2 (aC f137)))))) 14 (x0::x1::aP (aO (aH (x9::aE::aW::aL::br (bD (aP (aH []))))))) m K
abbrev qbx (K:KT):KT:=bF 137 (bo (c2 (c2 (c2 (aC f137))))) K
abbrev qby (K:KT):KT:=bu 0 (qbx K)
abbrev JS (K:KT):KT:=(qby K)
abbrev qbA (K:KT):KT:=bF 137 (lS (pU (bo (aC f137)))) (oH 137 (ck (bo (c2 (c2 (aC f137))))) 11 K)
abbrev qbB (K:KT):KT:=bu 1 (qbA K)
abbrev qbC (K:KT):KT:=bF 137 (lS (wj (Db (c2 (c2 (c2 (aC f137))))))) (qbB K)
abbrev qbD (K:KT):KT:=bu 2 (qbC K)
abbrev JT (K:KT):KT:=(qbD K)
theorem GZ (a0 a1:AV) (m:af):AC ae 137 [a0,a1] m=(aD (AP ae) none m 133 [a0]).bind fun r1=>(aD (AP ae) none r1.2 133 [a1]).bind fun r2=>(aK false r2.1).bind fun v3=>(ag .other .eql v3 (.int .i64 0)).bind fun v4=>aw v4 (some ((.tup [au,au,(.int .i64 31)]),r2.2)) ((aK false r2.1).bind fun v5=>(ag .other .eql v5 (.int .i64 1)).bind fun v6=>aw v6 ((aG none r2.1 (.int .i64 0)).bind fun v7=>(ai none r2.2 v7).bind fun v8=>(bm .u64 v8).bind fun v9=>(aD (AP ae) none r2.2 170 [r1.1,v9]).bind fun iE=>(ba iE.1 0).bind fun v11=>(ba iE.1 1).bind fun v12=>(aD (AP ae) none iE.2 72 [v12]).bind fun fW=>some ((.tup [v11,fW.1,(.int .i64 0)]),fW.2)) ((aK false r1.1).bind fun bj=>(aK false r2.1).bind fun bn=>(ag .other .lss bj bn).bind fun bO=>aw bO (some ((.tup [au,r1.1,(.int .i64 0)]),r2.2)) ((aK false r1.1).bind fun bB=>(iV none 161 none (.int .u32 0) 4 r2.2 bB bB).bind fun iJ=>(aK false r1.1).bind fun eU=>(aK false r2.1).bind fun v20=>(ag .other .sub eU v20).bind fun v21=>FV r1.1 r2.1 iJ.1 v21 iJ.2 (JS (aF ae.P f137.results.toList))))):=
(bh ae 137 [a0,a1] m (fn:=f137) (c:=aC f137) qhN rfl).trans (by kernel_rfl)
theorem Qq (x0 x1 x9 aE:AV) (m:af) (K:KT):FV x0 x1 x9 aE m K=(ag .other .geq aE (.int .i64 0)).bind fun v1=>aw v1 ((aD (AP ae) none m 171 [x0,x1,aE]).bind fun r2=>(ba r2.1 0).bind fun v3=>(ba r2.1 1).bind fun v4=>Ce x0 x1 x9 aE v3 v4 r2.2 (JT K)) (K (.exit 0) (KC x0 x9 m)):=
(b7 (bX _) _ _ _).trans (by kernel_rfl)
theorem Qr (x0 x1 x9 aE aW aL:AV) (m:af) (K:KT):Ce x0 x1 x9 aE aW aL m K=(ag .other .lss aW aL).bind fun v1=>aw v1 ((ag .other .sub aL aW).bind fun v2=>(ag .other .add v2 (.int .u64 1)).bind fun v3=>(ag .other .quo v3 (.int .u64 2)).bind fun v4=>(ag .other .add aW v4).bind fun v5=>(aD (AP ae) none m 172 [x1,v5,aE]).bind fun r6=>(aD (AP ae) none r6.2 77 [r6.1,x0]).bind fun r7=>(ag .other .leq r7.1 (.int .i64 0)).bind fun v8=>aw v8 (Ce x0 x1 x9 aE v5 aL r7.2 K) ((ag .other .sub v5 (.int .u64 1)).bind fun v9=>Ce x0 x1 x9 aE aW v9 r7.2 K)) (K (.exit 2) (KD x0 x1 x9 aE aW m)):=
(b7 (bX _) _ _ _).trans (by kernel_rfl)
theorem qbz (x0 x9:AV) (m:af):JS (aF ae.P f137.results.toList) (.exit 0) (KC x0 x9 m)=(aD (AP ae) none m 133 [x9]).bind fun r1=>some ((.tup [r1.1,x0,(.int .i64 0)]),r1.2):=by kernel_rfl
theorem qbE (x0 x1 x9 aE aW:AV) (m:af) (K:KT):JT K (.exit 2) (KD x0 x1 x9 aE aW m)=(bm .u32 aW).bind fun v1=>(aG none x9 aE).bind fun v2=>(aN none m v2 v1).bind fun m3=>(aD (AP ae) none m3 172 [x1,aW,aE]).bind fun r4=>(aD (AP ae) none r4.2 78 [x0,r4.1]).bind fun r5=>(ba r5.1 0).bind fun v6=>(ba r5.1 1).bind fun v7=>(ag .other .sub aE (.int .i64 1)).bind fun v8=>FV v6 x1 x9 v8 r5.2 K:=by kernel_rfl
theorem qfE (a0:AV) (m:af):AC ae 155 [a0] m=(aD (AP ae) none m 133 [a0]).bind fun r1=>(aK false r1.1).bind fun v2=>(ag .other .eql v2 (.int .i64 0)).bind fun v3=>aw v3 (some ((.tup [(.int .u64 0),(.bool true)]),r1.2)) ((ag .other .eql v2 (.int .i64 1)).bind fun v4=>aw v4 ((aG none r1.1 (.int .i64 0)).bind fun v5=>(ai none r1.2 v5).bind fun v6=>(bm .u64 v6).bind fun v7=>some ((.tup [v7,(.bool true)]),r1.2)) ((ag .other .eql v2 (.int .i64 2)).bind fun v8=>aw v8 ((aG none r1.1 (.int .i64 1)).bind fun v9=>(ai none r1.2 v9).bind fun v10=>(bm .u64 v10).bind fun v11=>(ag .other .shl v11 (.int .u64 32)).bind fun v12=>(aG none r1.1 (.int .i64 0)).bind fun bp=>(ai none r1.2 bp).bind fun bj=>(bm .u64 bj).bind fun bn=>(ag .other .or v12 bn).bind fun bO=>some ((.tup [bO,(.bool true)]),r1.2)) (some ((.tup [(.int .u64 0),(.bool false)]),r1.2)))):=
(bh ae 155 [a0] m (fn:=f155) (c:=aC f155) qh0 rfl).trans (by kernel_rfl)
theorem qfF (a0:AV) (m:af):AC ae 156 [a0] m=(aD (AP ae) none m 135 [a0,(.int .i64 0)]).bind fun r1=>(ag .other .rem r1.1 (.int .u64 2)).bind fun v2=>(ag .other .eql v2 (.int .u64 0)).bind fun v3=>some (v3,r1.2):=
(bh ae 156 [a0] m (fn:=f156) (c:=aC f156) qh1 rfl).trans (by kernel_rfl)
theorem qfG (a0:AV) (m:af):AC ae 157 [a0] m=(aD (AP ae) none m 133 [a0]).bind fun r1=>(aD (AP ae) none r1.2 170 [r1.1,(.int .u64 2)]).bind fun r2=>(ba r2.1 0).bind fun v3=>(ba r2.1 1).bind fun v4=>some (v3,r2.2):=
(bh ae 157 [a0] m (fn:=f157) (c:=aC f157) qh2 rfl).trans (by kernel_rfl)
def KG (x6 x7:AV) (m:af):St:=⟨(aP (aO (x6::x7::bI (aH [])))),m⟩
def Ga (x0 x1 x6 x7 x8:AV) (m:af) (K:KT):OM:=b8 170 (ck (c2 (c2 (c2 (aC f170))))) 4 (x0::x1::aP (x6::x7::x8::bI [])) m K
abbrev qcm (K:KT):KT:=bF 170 (bo (aC f170)) K
abbrev qcn (K:KT):KT:=bu 0 (qcm K)
abbrev J0 (K:KT):KT:=(qcn K)
theorem qfL (a0 a1:AV) (m:af):AC ae 170 [a0,a1] m=(aK false a0).bind fun v1=>(iV none 161 none (.int .u32 0) 4 m v1 v1).bind fun r2=>(aK false a0).bind fun v3=>(ag .other .sub v3 (.int .i64 1)).bind fun v4=>Ga a0 a1 r2.1 (.int .u64 0) v4 r2.2 (J0 (aF ae.P f170.results.toList)):=
(bh ae 170 [a0,a1] m (fn:=f170) (c:=aC f170) qib rfl).trans (by kernel_rfl)
theorem QD (x0 x1 x6 x7 x8:AV) (m:af) (K:KT):Ga x0 x1 x6 x7 x8 m K=(ag .other .geq x8 (.int .i64 0)).bind fun v1=>aw v1 ((ag .other .mul x7 (.int .u64 4294967296)).bind fun v2=>(aG none x0 x8).bind fun v3=>(ai none m v3).bind fun v4=>(bm .u64 v4).bind fun v5=>(ag .other .add v2 v5).bind fun v6=>(ag .other .quo v6 x1).bind fun v7=>(bm .u32 v7).bind fun v8=>(aG none x6 x8).bind fun v9=>(aN none m v9 v8).bind fun m10=>(ag .other .rem v6 x1).bind fun v11=>(ag .other .sub x8 (.int .i64 1)).bind fun v12=>Ga x0 x1 x6 v11 v12 m10 K) (K (.exit 0) (KG x6 x7 m)):=
(b7 (bX _) _ _ _).trans (by kernel_rfl)
theorem qco (x6 x7:AV) (m:af):J0 (aF ae.P f170.results.toList) (.exit 0) (KG x6 x7 m)=(aD (AP ae) none m 133 [x6]).bind fun r1=>some ((.tup [r1.1,x7]),r1.2):=by kernel_rfl
theorem qfM (a0 a1 a2:AV) (m:af):AC ae 171 [a0,a1,a2] m=(aK false a1).bind fun v1=>(ag .other .add a2 v1).bind fun v2=>(aD (AP ae) (some m.length) m 135 [a0,v2]).bind fun r3=>(ag .other .shl r3.1 (.int .u64 32)).bind fun v4=>(ag .other .add a2 v1).bind fun v5=>(ag .other .sub v5 (.int .i64 1)).bind fun v6=>(aD (AP ae) (some m.length) r3.2 135 [a0,v6]).bind fun r7=>(ag .other .or v4 r7.1).bind fun v8=>(ag .other .sub v1 (.int .i64 1)).bind fun v9=>(aG none a1 v9).bind fun v10=>(ai none r7.2 v10).bind fun v11=>(bm .u64 v11).bind fun v12=>(ag .other .quo v8 v12).bind fun bp=>(ag .other .lss bp (.int .u64 4294967295)).bind fun bj=>aw bj ((ag .other .quo v8 v12).bind fun bn=>(ag .other .add v12 (.int .u64 1)).bind fun bO=>(ag .other .lss bO (.int .u64 4294967296)).bind fun bB=>aw bB ((ag .other .add v12 (.int .u64 1)).bind fun fk=>(ag .other .quo v8 fk).bind fun eU=>(ag .other .lss eU (.int .u64 4294967296)).bind fun v20=>aw v20 ((ag .other .add v12 (.int .u64 1)).bind fun v21=>(ag .other .quo v8 v21).bind fun v22=>(ag .other .gtr v22 bn).bind fun v23=>aw v23 (some ((.tup [bn,bn]),r7.2)) (some ((.tup [v22,bn]),r7.2))) ((ag .other .gtr (.int .u64 0) bn).bind fun v24=>aw v24 (some ((.tup [bn,bn]),r7.2)) (some ((.tup [(.int .u64 0),bn]),r7.2)))) ((ag .other .gtr (.int .u64 0) bn).bind fun v25=>aw v25 (some ((.tup [bn,bn]),r7.2)) (some ((.tup [(.int .u64 0),bn]),r7.2)))) ((ag .other .add v12 (.int .u64 1)).bind fun v26=>(ag .other .lss v26 (.int .u64 4294967296)).bind fun jK=>aw jK ((ag .other .add v12 (.int .u64 1)).bind fun v28=>(ag .other .quo v8 v28).bind fun j9=>(ag .other .lss j9 (.int .u64 4294967296)).bind fun v30=>aw v30 ((ag .other .add v12 (.int .u64 1)).bind fun v31=>(ag .other .quo v8 v31).bind fun mN=>(ag .other .gtr mN (.int .u64 4294967295)).bind fun oI=>aw oI (some ((.tup [(.int .u64 4294967295),(.int .u64 4294967295)]),r7.2)) (some ((.tup [mN,(.int .u64 4294967295)]),r7.2))) ((ag .other .gtr (.int .u64 0) (.int .u64 4294967295)).bind fun qN=>aw qN (some ((.tup [(.int .u64 4294967295),(.int .u64 4294967295)]),r7.2)) (some ((.tup [(.int .u64 0),(.int .u64 4294967295)]),r7.2)))) ((ag .other .gtr (.int .u64 0) (.int .u64 4294967295)).bind fun ml=>aw ml (some ((.tup [(.int .u64 4294967295),(.int .u64 4294967295)]),r7.2)) (some ((.tup [(.int .u64 0),(.int .u64 4294967295)]),r7.2)))):=
(bh ae 171 [a0,a1,a2] m (fn:=f171) (c:=aC f171) qic rfl).trans (by kernel_rfl)
def KH (x7 x8:AV) (m:af):St:=⟨(aP (aO (aH (x7::x8::bI (aH []))))),m⟩
def Gb (x0 x1 x7 x8 x9:AV) (m:af) (K:KT):OM:=b8 172 (ck (c2 (c2 (c2 (aC f172))))) 4 (x0::x1::aP (aH (x7::x8::x9::bI []))) m K
abbrev qcp (K:KT):KT:=bF 172 (bo (aC f172)) K
abbrev qcq (K:KT):KT:=bu 0 (qcp K)
abbrev P2 (K:KT):KT:=(qcq K)
theorem qfN (a0 a1 a2:AV) (m:af):AC ae 172 [a0,a1,a2] m=(yY none none (.int .u32 0) 4 m a2 a2).bind fun r1=>Gb a0 a1 r1.1 (.int .u64 0) (.int .i64 0) r1.2 (P2 (aF ae.P f172.results.toList)):=
(bh ae 172 [a0,a1,a2] m (fn:=f172) (c:=aC f172) qid rfl).trans (by kernel_rfl)
theorem QE (x0 x1 x7 x8 x9:AV) (m:af) (K:KT):Gb x0 x1 x7 x8 x9 m K=(aK false x0).bind fun v1=>(ag .other .lss x9 v1).bind fun v2=>aw v2 ((aG none x0 x9).bind fun v3=>(ai none m v3).bind fun v4=>(bm .u64 v4).bind fun v5=>(ag .other .mul v5 x1).bind fun v6=>(ag .other .add v6 x8).bind fun v7=>(ag .other .rem v7 (.int .u64 4294967296)).bind fun v8=>(bm .u32 v8).bind fun v9=>(fh none [v9]).bind fun v10=>(cg none false 161 none 4 m x7 v10).bind fun jy=>(ag .other .quo v7 (.int .u64 4294967296)).bind fun v12=>(ag .other .add x9 (.int .i64 1)).bind fun bp=>Gb x0 x1 jy.1 v12 bp jy.2 K) (K (.exit 0) (KH x7 x8 m)):=
(b7 (bX _) _ _ _).trans (by kernel_rfl)
theorem qcr (x7 x8:AV) (m:af):P2 (aF ae.P f172.results.toList) (.exit 0) (KH x7 x8 m)=(bm .u32 x8).bind fun v1=>(fh none [v1]).bind fun v2=>(cg none false 161 none 4 m x7 v2).bind fun r3=>(aD (AP ae) none r3.2 133 [r3.1]).bind fun r4=>some (r4.1,r4.2):=by kernel_rfl
end
end Go.Ab
namespace Go.Ab
open Go.Proofs.Tryz
def nN (m:af) (ds:List Nat):NV:=if ds=[] then ⟨true,.full,[]⟩ else ⟨false,.tok m.length 161,ds⟩
def o8 (m:af) (ds:List Nat):af:=if ds=[] then m else nQ m ds.length
def qI (ds:List Nat):NV:=if ds=[] then ⟨true,.full,[]⟩ else ⟨false,.no,ds⟩
theorem qoc (m:af) (ds:List Nat):(nN m ds).fr=qI ds:=by unfold nN qI;split<;>rfl
theorem qoa (ds:List Nat):(qI ds).fr=qI ds:=by unfold qI;split<;>rfl
theorem w9 (ds:List Nat):(qI ds).ds=ds:=by
 unfold qI
 split
 ·rename_i h;rw[h]
 ·rfl
theorem Mj (m:af) (ds:List Nat):Fz (nN m ds).av (qI ds).av:=by
 have:=cu (nN m ds)
 rwa [qoc] at this
theorem qob {ds:List Nat} (h:Dg ds) (h':ds.length < 2 ^ 40):NOk (qI ds):=by
 refine ⟨by rw[w9];exact h,by rw[w9];exact h',?_⟩;unfold qI
 split
 ·intro _;rfl
 ·intro h;cases h
theorem Yo (ds:List Nat):(qI ds).v=val ds:=by rw[NV.v,w9]
theorem nE {R:Type} {x y:Option R}:aw (.bool true) x y=x:=rfl
theorem ng {R:Type} {x y:Option R}:aw (.bool false) x y=y:=rfl
theorem S8 {m:af} {ds:List Nat} {z:Bool} {o:Own} (h:ds.length * 4<=gL):cg none false 161 none 4 m au (.lst none z o (ds.map dg))=some ((nN m ds).av,o8 m ds):=by
 cases ds with
 | nil=>rfl
 | cons d ds=>
  have h2:(ds.length+1) * 4<=gL:=by simpa using h
  simp only[nN,o8,NV.av,cg,fV,aJ,aM,bU,bf,h2,bq,aA,nQ,Sh.size,bE,reduceCtorEq,lL,jM,or_true,bf]
theorem Lw {m:af} {ds:List Nat} {v:Nat} (h:(ds.length+1) * 4<=gL):cg none false 161 none 4 (o8 m ds) (nN m ds).av (.lst none false .full [.int .u32 v])=some ((nN m (ds++[v])).av,o8 m (ds++[v])):=by
 cases ds with
 | nil=>exact S8 (ds:=[v]) h
 | cons d ds=>
  have:=C0 (e:=161) (b:=4) (m:=m) (es:=(d::ds).map dg) (z:=false) (o:=.full) (y:=.int .u32 v) (by rw[bU];exact h);rw[bU] at this;simp only[nN,o8,reduceCtorEq,lL,NV.av];rw[this];simp[dg,nN,o8]
def bK (n:Nat):NV:=qI (aB n)
theorem jH (n:Nat):(bK n).fr=bK n:=qoa _
theorem j8 (n:Nat):(bK n).ds=aB n:=w9 _
theorem gA (n:Nat):(bK n).v=n:=by rw[NV.v,j8,gj]
theorem ik {n:Nat} (h:(aB n).length < 2 ^ 40):NOk (bK n):=qob (gd n) h
theorem o0 (n:Nat):aK false (bK n).av=some (.int .i64 (aB n).length):=by rw[gZ,j8]
theorem iy (n:Nat):Fz (bK n).av (bK n).av:=by
 have:=cu (bK n)
 rwa [jH] at this
theorem wB (n:Nat):∀ m k,bH m (k+1) (bK n).av=some ((bK n).av,[]):=by
 have:=qv (bK n)
 rwa [jH] at this
theorem qgv (x:NV) (m:af) (K:KT):∀ n:Nat,n<=x.ds.length->x.ds.length < 2 ^ 62->FT x.av (.int .i64 n) m K=K (.exit 0) (GG x.av (.int .i64 (lP x.ds n)) m):=by
 intro n
 induction n with
 | zero=>
  intro _ _;rw[Qo];simp[hJ,aw,lP]
 | succ n ih=>
  intro hn hl;have ih:=ih (by omega) hl;rw[Qo];have h1:((n+1:Nat):Int) > 0:=by omega
  have h2:IntKind.wrap .i64 (((n+1:Nat):Int) - 1)=n:=by rw[iK]<;>omega
  simp only[hJ,aa,az,an h1,pv,h2];rw[NV.av,ua (by omega) (by omega)];simp only[aa,gz,dg,ir,az,cK];rw[lP]
  by_cases h:x.ds.getD n 0=0
  ·rw[an (by omega),an h];exact ih
  ·rw[aj (by omega),aj h]
theorem xP (x:NV) (dx:Dg x.ds) (hl:x.ds.length < 2 ^ 41):AP ae 133 [x.av]=some (bK x.v).av:=by
 have ht:=EA x.ds x.ds.length;refine cW _ _ (Mj [] (aB x.v)) (pK _) (m:=o8 [] (aB x.v)) ?_;rw[qft,gZ,aa,qgv x [] _ _ (aR _) (by omega),qbt];have hs:=YO (z:=x.z) (o:=x.o) (ds:=x.ds) (k:=.i64) (i:=lP x.ds x.ds.length) (by omega) (by omega);rw[<- NV.av] at hs;rw[hs,aa];have he:x.ds.take (lP x.ds x.ds.length)=aB x.v:=kV dx;have hdl:=TN dx;rw[cK,he,S8 (by rw[NV.v];simp only[gL];omega)]
 rfl
theorem q8 {x:NV} (h:NOk x):AP ae 133 [x.av]=some (bK x.v).av:=xP x h.dg (by have:=h.len;omega)
theorem uG {x:NV} {i:Nat} (h:NOk x) (hi:i < 2 ^ 60):AP ae 135 [x.av,.int .i64 i]=some (.int .u64 (x.ds.getD i 0:Nat)):=by
 have:=h.dg i;refine iH (m:=[]) ?_ (gu _ _ _) (by simp[iQ]);rw[qfv,gZ,aa,dp,aa,az]
 by_cases hl:i < x.ds.length
 ·rw[an hl,ma hl,aa,kA,aa,my _ this,aa]
 ·rw[aj hl,ym (by omega)];rfl
theorem R0 {x:NV} (h:NOk x):AP ae 118 [x.av]=some (.bool (pT x.ds)):=by
 have hx:=h.len;refine iH (m:=[]) ?_ (px _ _) (by simp[iQ]);rw[<- ON h.dg,qfh,gZ,aa,me,aa,az]
 by_cases h0:x.ds.length=0
 ·rw[an h0];simp[w8,h0]
 ·rw[aj h0,aa,oC (by omega) (by omega),aa,ma (by omega),aa,kA,aa,dg,W6,aa];simp[w8,h0]
theorem W77 (x y:NV) (m:af) (K:KT) (hl:x.ds.length < 2 ^ 62):∀ n:Nat,n<=x.ds.length->n<=y.ds.length ->
  Gq x.av y.av (.int .i64 ((n:Int) - 1)) m K=if mC x.ds y.ds n=0 then K (.exit 0) (K6 m) else K .ret (GW (.int .i64 (mC x.ds y.ds n)) m):=by
 intro n
 induction n with
 | zero=>
  intro _ _;rw[Q6];simp[kF,aw,mC]
 | succ n ih=>
  intro hx hy;have ih:=ih (by omega) (by omega);rw[Q6,show ((n+1:Nat):Int) - 1=(n:Nat) by omega,Eh,aa,nE];rw[ma (by omega),aa,kA,aa,ma (by omega),aa,kA,aa,dg,dg,N9,aa,az]
  by_cases h:x.ds.getD n 0=y.ds.getD n 0
  ·have hc:mC x.ds y.ds (n+1)=mC x.ds y.ds n:=by rw[mC,aj (by omega),aj (by omega)]
   rw[hc,aj (fun hn=>hn h),tY (by omega),aa];exact ih
  ·rw[an h,aa,kA,aa,aa,kA,aa,dp,aa,az]
   by_cases h2:x.ds.getD n 0 < y.ds.getD n 0
   ·have hc:mC x.ds y.ds (n+1)=-1:=by rw[mC,an h2]
    rw[hc,an h2];rfl
   ·have hc:mC x.ds y.ds (n+1)=1:=by rw[mC,aj h2,an (by omega)]
    rw[hc,aj h2];rfl
theorem xU {x y:NV} (hx:NOk x) (hy:NOk y):AP ae 77 [x.av,y.av]=some (.int .i64 (gE x.v y.v)):=by
 have lx:=hx.v_len';have ly:=hy.v_len';refine iH (m:=[]) ?_ (gu _ _ _) (by simp[iQ]);rw[T77,cw (cu x),q8 hx.fr,aQ,aa,cw (cu y),q8 hy.fr,aQ,aa];rw[show x.fr.v=x.v from rfl,show y.fr.v=y.v from rfl,o0,aa,o0,aa,N9,aa,az,<- TD]
 by_cases h:(aB x.v).length=(aB y.v).length
 ·have hc:uN (aB x.v) (aB y.v)=mC (aB x.v) (aB y.v) (aB x.v).length:=by
   unfold uN;rw[aj (by omega),aj (by omega)]
  rw[hc,aj (fun hn=>hn h),aa,tY (by omega),aa];have:=W77 (bK x.v) (bK y.v) [] (FC (aF ae.P f77.results.toList)) (by rw[j8];omega) (aB x.v).length (by rw[j8];exact aR _) (by rw[j8];omega);rw[this,qer,qeq,j8,j8]
  split
  ·rename_i h0;rw[h0]
  ·rfl
 ·rw[an h,aa,aa,dp,aa,az];unfold uN
  by_cases h2:(aB x.v).length < (aB y.v).length
  ·rw[an h2,an h2]
  ·have h3:(aB x.v).length > (aB y.v).length:=by omega
   rw[aj h2,aj h2,an h3]
theorem G6 {n:Nat} (h:n < 18446744073709551616):AP ae 72 [.int .u64 n]=some (bK n).av:=by
 have hb:∀ a b:Nat,fh none [.int .u32 (a:Nat),.int .u32 (b:Nat)]=some (NV.av ⟨false,.full,[a,b]⟩):=fun _ _=>rfl;have hd:Dg [n % 4294967296,n / 4294967296]:=mD.2 ⟨kf _ (by omega),uQ (by omega)⟩;refine cW _ _ (iy n) (pK _) (m:=[]) ?_;rw[T72,mz,aa,Jq,aa,mz,aa,kZ (by omega:n / 4294967296 < 4294967296),hb,aa,cw (cu _),q8 (NOk.fr ⟨hd,by simp,by simp⟩)];simp only[aQ,aa,NV.fr,NV.v,val];congr 4;omega
theorem R7 {x:NV} (h:NOk x):AP ae 155 [x.av]=some (s8 x.v):=by
 have e:s8 x.v=s7 (bK x.v).ds:=by rw[j8,YQ]
 rw[e];refine iH (m:=[]) ?_ ((HH _).1 _) (by simp[(HH _).2]);rw[qfE,cw (cu x),q8 h.fr];have dt:Dg (bK x.v).ds:=by rw[j8];exact gd _
 simp only[aQ,aa];rw[show x.fr.v=x.v from rfl];generalize bK x.v=a at dt;rw[gZ,aa,me,aa,az];obtain ⟨z,o,ds⟩:=a
 match ds,dt with
 | [],_=>rfl
 | [d],dt=>
  have h0:=(mD.1 dt).1;rw[aj (by simp),vw,aa,az,an (by simp),Ip (by simp),aa,kA,aa];simp only[pk];rw[my d h0]
  rfl
 | [d,e],dt=>
  have h0:=(mD.1 dt).1;have h1:=(mD.1 (mD.1 dt).2).1;have i1:aG none (NV.mk z o [d,e]).av (.int .i64 1)=some (.vptr [dg e]):=rfl;rw[aj (by simp),vw,aa,az,aj (by simp),W0,aa,az,an (by simp),i1,aa,kA,aa,my e h1,aa,EE h1,aa,Ip (by simp),aa,kA,aa];simp only[pk];rw[my d h0,aa,ED h1 h0,aa];simp only[s7,rY]
 | d::e::f::l,_=>
  rw[aj (by simp),vw,aa,az,aj (by simp),W0,aa,az,aj (by simp)]
  rfl
end Go.Ab
namespace Go.Ab
open Go.Proofs.Tryz
theorem Ph {tk:TK} {a:Nat} (h:a < 18446744073709551616):ag tk .rem (.int .u64 a) (.int .u64 4294967296)=some (.int .u64 (a % 4294967296:Nat)):=BK (b:=4294967296) (by omega) h
theorem Pg {tk:TK} {a:Nat} (h:a < 18446744073709551616):ag tk .quo (.int .u64 a) (.int .u64 4294967296)=some (.int .u64 (a / 4294967296:Nat)):=zn (b:=4294967296) (by omega) h
theorem Zj {tk:TK} {a:Nat}:ag tk .gtr (.int .u64 a) (.int .u64 0)=some (.bool (decide (a > 0))):=vx
theorem N3 (a:Nat):a % 4294967296 % 4294967296=a % 4294967296:=Nat.mod_mod _ _
theorem C6 (n:Nat):fh none [.int .u32 (n:Nat)]=some (.lst none false .full [.int .u32 n]):=rfl
theorem JC {x y:NV} (hx:NOk x) (hy:NOk y) (m:af) (K:KT) (i:Nat) (hi:i < 2 ^ 41) (fx:x.fr=x) (fy:y.fr=y) :
  ((aD (AP ae) none (o8 m (cB x.ds y.ds i).1) 135 [x.av,.int .i64 i]).bind fun r3=>
  (aD (AP ae) none r3.2 135 [y.av,.int .i64 i]).bind fun r4=>
  (ag .other .add r3.1 r4.1).bind fun v5=>
  (ag .other .add v5 (.int .u64 (cB x.ds y.ds i).2)).bind fun v6=>
  (ag .other .rem v6 (.int .u64 4294967296)).bind fun v7=>
  (bm .u32 v7).bind fun v8=>
  (fh none [v8]).bind fun v9=>
  (cg none false 161 none 4 r4.2 (nN m (cB x.ds y.ds i).1).av v9).bind fun iE=>
  (ag .other .quo v6 (.int .u64 4294967296)).bind fun v11=>
  (ag .other .add (.int .i64 i) (.int .i64 1)).bind fun v12=>
  uv x.av y.av iE.1 v11 v12 iE.2 K) =
  uv x.av y.av (nN m (cB x.ds y.ds (i+1)).1).av (.int .u64 (cB x.ds y.ds (i+1)).2) (.int .i64 (i+1:Nat)) (o8 m (cB x.ds y.ds (i+1)).1) K:=by
 have fzx:=cu x;have fzy:=cu y;rw[fx] at fzx;rw[fy] at fzy;have hc:=xV hx.dg hy.dg i;have h1:=hx.dg i;have h2:=hy.dg i;have hl:=wa x.ds y.ds i;have e:(cB x.ds y.ds i).2+x.ds.getD i 0+y.ds.getD i 0=x.ds.getD i 0+y.ds.getD i 0+(cB x.ds y.ds i).2:=by omega
 simp only[cB,e]
 rw[fP fzx (gu _ _),uG hx (by omega),aQ,aa,fP fzy (gu _ _),uG hy (by omega),aQ,aa,
  nR (by omega),aa,nR (by omega),aa,Ph (by omega),aa,mz,aa,N3,C6,aa,
  Lw (by rw[hl];simp only[gL];omega),aa,Pg (by omega),aa,cG (by omega),aa]
def sa (a b:List Nat):Nat:=if (cB a b (max a.length b.length)).2 > 0 then max a.length b.length+1 else max a.length b.length
theorem qg1 {a b:List Nat} (ha:Dg a) (hb:Dg b):val (cB a b (sa a b)).1=val a+val b:=by
 have hc:=xV ha hb (max a.length b.length)
 have e1:∀ n,max a.length b.length<=n->(cB a b n).2=0->val (cB a b n).1=val a+val b:=by
  intro n hn h0;have:=Ls a b n;rw[h0,n7,ke,jh (by omega),jh (by omega)] at this;exact this
 unfold sa
 split
 ·refine e1 _ (by omega) ?_;have o1:a.getD (max a.length b.length) 0=0:=ym (by omega);have o2:b.getD (max a.length b.length) 0=0:=ym (by omega);simp only[cB,o1,o2];omega
 ·exact e1 _ (aR _) (by omega)
theorem W76 {x y:NV} (hx:NOk x) (hy:NOk y) (m:af) (K:KT) (fx:x.fr=x) (fy:y.fr=y):∀ j i:Nat,i+j=max x.ds.length y.ds.length ->
  ∃ v,uv x.av y.av (nN m (cB x.ds y.ds i).1).av (.int .u64 (cB x.ds y.ds i).2) (.int .i64 i) (o8 m (cB x.ds y.ds i).1) K
   = K (.exit 0) (GL (nN m (cB x.ds y.ds (sa x.ds y.ds)).1).av v):=by
 have lx:=hx.len;have ly:=hy.len
 have lst:∀ i,x.ds.length<=i->y.ds.length<=i->i < 2 ^ 41->(cB x.ds y.ds i).2=0 ->
   uv x.av y.av (nN m (cB x.ds y.ds i).1).av (.int .u64 (cB x.ds y.ds i).2) (.int .i64 i) (o8 m (cB x.ds y.ds i).1) K=K (.exit 0) (GL (nN m (cB x.ds y.ds i).1).av (o8 m (cB x.ds y.ds i).1)):=by
  intro i h1 h2 h3 h4;rw[Kl,gZ,aa,dp,aa,az,aj (by omega),gZ,aa,dp,aa,az,aj (by omega),Zj,aa,az,aj (by omega)]
 intro j
 induction j with
 | zero=>
  intro i hi;have hi:i=max x.ds.length y.ds.length:=by omega
  by_cases hc:(cB x.ds y.ds i).2 > 0
  ·have ht:sa x.ds y.ds=i+1:=by unfold sa;rw[<- hi,an hc]
   have o1:x.ds.getD i 0=0:=ym (by omega);have o2:y.ds.getD i 0=0:=ym (by omega);have tG:=xV hx.dg hy.dg i;refine ⟨o8 m (cB x.ds y.ds (i+1)).1,?_⟩;rw[Kl,gZ,aa,dp,aa,az,aj (by omega),gZ,aa,dp,aa,az,aj (by omega),Zj,aa,az,an hc,JC hx hy m K i (by omega) fx fy,ht];exact lst (i+1) (by omega) (by omega) (by omega) (by simp only[cB,o1,o2];omega)
  ·have ht:sa x.ds y.ds=i:=by unfold sa;rw[<- hi,aj hc]
   rw[ht];exact ⟨_,lst i (by omega) (by omega) (by omega) (by omega)⟩
 | succ j ih=>
  intro i hi;obtain ⟨v,ih⟩:=ih (i+1) (by omega);refine ⟨v,?_⟩;rw[Kl,gZ,aa,dp,aa,az]
  by_cases h1:i < x.ds.length
  ·rw[an h1,JC hx hy m K i (by omega) fx fy];exact ih
  ·rw[aj h1,gZ,aa,dp,aa,az,an (by omega),JC hx hy m K i (by omega) fx fy];exact ih
theorem Sl {x y:NV} (hx:NOk x) (hy:NOk y) (fx:x.fr=x) (fy:y.fr=y):AP ae 76 [x.av,y.av]=some (bK (x.v+y.v)).av:=by
 have lx:=hx.len;have ly:=hy.len;obtain ⟨v,hw⟩:=W76 hx hy [] (Kf (aF ae.P f76.results.toList)) fx fy (max x.ds.length y.ds.length) 0 (by omega);have hl:=wa x.ds y.ds (sa x.ds y.ds);have hT:sa x.ds y.ds<=max x.ds.length y.ds.length+1:=by unfold sa;split<;>omega
 have hd:=Lr x.ds y.ds (sa x.ds y.ds);refine cW _ _ (iy _) (pK _) (m:=v) ?_;rw[T76];refine hw.trans ?_;rw[qen,cw (Mj _ _),xP _ (by rw[w9];exact hd) (by rw[w9,hl];omega),Yo,qg1 hx.dg hy.dg]
 rfl
def jI (a b:List Nat):Nat->List Nat×Nat
 | 0=>([],0)
 | i+1=>if a.getD i 0 < b.getD i 0+(jI a b i).2 then ((jI a b i).1++[a.getD i 0+4294967296 - (b.getD i 0+(jI a b i).2)],1)
  else ((jI a b i).1++[a.getD i 0 - (b.getD i 0+(jI a b i).2)],0)
theorem Ez (a b:List Nat):∀ i,(jI a b i).1.length=i
 | 0=>rfl
 | i+1=>by simp only[jI];split<;>simp[Ez a b i]
theorem Jj (a b:List Nat):∀ i,(jI a b i).2<=1
 | 0=>by simp[jI]
 | i+1=>by simp only[jI];split<;>simp
theorem Jk {a b:List Nat} (ha:Dg a) (hb:Dg b):∀ i,Dg (jI a b i).1
 | 0=>yd
 | i+1=>by
  have:=Jj a b i;have h1:=ha i;have h2:=hb i;simp only[jI]
  split
  ·exact yc (Jk ha hb i) (uQ (by omega))
  ·exact yc (Jk ha hb i) (uQ (by omega))
theorem qoQ {a b:List Nat} (ha:Dg a) (hb:Dg b) (i:Nat):val (jI a b i).1+vs b i=vs a i+4294967296 ^ i * (jI a b i).2:=by
 induction i with
 | zero=>
  rw[jI,rI,rI]
  rfl
 | succ i ih=>
  have hl:=Ez a b i;have hc:=Jj a b i;have h1:=ha i;have h2:=hb i;rw[jL,jL,jO,jI];obtain ⟨s1,s2⟩:=Y0 (x:=a.getD i 0) (y:=b.getD i 0) (v1:=4294967296) ih;rw[rY (jI a b i).2] at s1 s2
  split
  ·rename_i hlt;simp only[];rw[xj,hl,val,val,n7,ke];exact s1 hlt (by omega)
  ·rename_i hlt;simp only[];rw[xj,hl,val,val,n7,ke];exact s2 hlt
theorem qoP {a b:List Nat} (ha:Dg a) (hb:Dg b) (h:val b<=val a):val (jI a b a.length).1=val a - val b:=by
 have h1:=qoQ ha hb a.length;rw[jh (aR _),Zs ha h] at h1;have h2:=mO (Jk ha hb a.length);rw[Ez] at h2;have h3:=mO ha;have hc:=Jj a b a.length
 have:(jI a b a.length).2=0:=by
  apply qk;intro hn;have e:(jI a b a.length).2=1:=by omega
  rw[e,mq] at h1;omega
 rw[this,n7,ke] at h1;omega
theorem W78 {x y:NV} (hx:NOk x) (hy:NOk y) (m:af) (K:KT) (fx:x.fr=x) (fy:y.fr=y):∀ j i:Nat,i+j=x.ds.length ->
  Cq x.av y.av (nN m (jI x.ds y.ds i).1).av (.int .u64 (jI x.ds y.ds i).2) (.int .i64 i) (o8 m (jI x.ds y.ds i).1) K
   = K (.exit 0) (K7 (nN m (jI x.ds y.ds x.ds.length).1).av (o8 m (jI x.ds y.ds x.ds.length).1)):=by
 have lx:=hx.len;have fzx:=cu x;have fzy:=cu y;rw[fx] at fzx;rw[fy] at fzy;intro j
 induction j with
 | zero=>
  intro i hi;have:i=x.ds.length:=by omega
  subst this;rw[Q7,gZ,aa,dp,aa,az,aj (by omega)]
 | succ j ih=>
  intro i hi;have ih:=ih (i+1) (by omega);have hc:=Jj x.ds y.ds i;have h1:=hx.dg i;have h2:=hy.dg i;have hl:=Ez x.ds y.ds i;have s1:ag .other .mul (.int .u64 1) (.int .u64 4294967296)=some (.int .u64 (4294967296:Nat)):=rfl;have s0:ag .other .mul (.int .u64 0) (.int .u64 4294967296)=some (.int .u64 (0:Nat)):=rfl;rw[Q7,gZ,aa,dp,aa,az,an (by omega),fP fzy (gu _ _),uG hy (by omega),aQ,aa,nR (by omega),aa,fP fzx (gu _ _),uG hx (by omega),aQ,aa,dp,aa,az];simp only[jI] at ih
  by_cases h:x.ds.getD i 0 < y.ds.getD i 0+(jI x.ds y.ds i).2
  ·rw[an h] at ih ⊢
   rw[fP fzx (gu _ _),uG hx (by omega),aQ,aa,s1,aa,nR (by omega),aa,zp (by omega) (by omega),aa,mz,aa,C6,aa,kZ (by omega),
    Lw (by rw[hl];simp only[gL];omega),aa,cG (by omega),aa]
   exact ih
  ·rw[aj h] at ih ⊢
   rw[fP fzx (gu _ _),uG hx (by omega),aQ,aa,s0,aa,nR (by omega),aa,zp (by omega) (by omega),aa,mz,aa,C6,aa,kZ (by omega),
    Lw (by rw[hl];simp only[gL];omega),aa,cG (by omega),aa]
   exact ih
def BF (x y:NV):AV:=if x.v < y.v then .tup [Bm,.int .i64 1] else .tup [(bK (x.v - y.v)).av,.int .i64 0]
theorem CQ {x y:NV} (hx:NOk x) (hy:NOk y) (fx:x.fr=x) (fy:y.fr=y):AP ae 78 [x.av,y.av]=some (BF x y):=by
 have lx:=hx.len;have fzx:=cu x;have fzy:=cu y;rw[fx] at fzx;rw[fy] at fzy;unfold BF
 by_cases h:x.v < y.v
 ·rw[an h];refine cW _ _ (wz AA (jV _ _)) rfl (m:=[]) ?_;rw[RT,fP fzx fzy,xU hx hy,aQ,aa,bg,aa,az,gE,an h,an (by omega)]
 ·rw[aj h];have hl:=Ez x.ds y.ds x.ds.length;have hd:=Jk hx.dg hy.dg x.ds.length;refine cW _ _ (wz (wB (x.v - y.v)) (jV _ _)) rfl (m:=o8 [] (jI x.ds y.ds x.ds.length).1) ?_;have hc:¬ gE x.v y.v < 0:=by unfold gE;rw[aj h];split<;>omega
  rw[RT,fP fzx fzy,xU hx hy,aQ,aa,bg,aa,az,aj hc];refine (W78 hx hy [] _ fx fy x.ds.length 0 (by omega)).trans ?_;rw[qeu,cw (Mj _ _),xP _ (by rw[w9];exact hd) (by rw[w9,hl];omega),Yo,qoP hx.dg hy.dg (vS h)]
  rfl
theorem qgQ (x y:NV) (m:af) (K:KT) (i n:Nat) (s:List Nat×Nat) (hl:n < 2 ^ 42) (hn:s.1.length=n) (hi:i+y.ds.length<=n) (gY:i < x.ds.length) (dx:Dg x.ds) (dy:Dg y.ds) (hs:Dg s.1) (hc:s.2 < 4294967296):∀ j k:Nat,k+j=y.ds.length ->
  Gp x.av y.av (.arr m.length 0 n none) (.int .i64 i) (.int .u64 (gP y.ds (x.ds.getD i 0) i k s).2) (.int .i64 k) (m++[oc (gP y.ds (x.ds.getD i 0) i k s).1]) K
   = K (.exit 2) (K5 x.av y.av (.arr m.length 0 n none) (.int .i64 i) (.int .u64 (gP y.ds (x.ds.getD i 0) i y.ds.length s).2) (m++[oc (gP y.ds (x.ds.getD i 0) i y.ds.length s).1])):=by
 intro j
 induction j with
 | zero=>
  intro k hk;have:k=y.ds.length:=by omega
  subst this;rw[Q5,gZ,aa,dp,aa,az,aj (by omega)]
 | succ j ih=>
  intro k hk;have ih:=ih (k+1) (by omega);have hx:=dx i;obtain ⟨h1,h2⟩:=Bi (i:=i) dy hx hs hc k;have h3:=h1 (i+k);have h4:=dy k;have h5:x.ds.getD i 0 * y.ds.getD k 0<=4294967295 * 4294967295:=rZ (by omega) (by omega);have hlen:=wZ y.ds (x.ds.getD i 0) i s k;have aU:∀ l,(m++[oc l])[m.length]?=some (oc l):=fun l=>zZ ..
  have tS:∀ l l',(m++[oc l]).set m.length (oc l')=m++[oc l']:=by
   intro l l';rw[tm _ _ (aR _),pP,cD]
  rw[Q5,gZ,aa,dp,aa,az,an (by omega)];simp only[gP] at ih;generalize gP y.ds (x.ds.getD i 0) i k s=t at *
  rw[ma gY,aa,kA,aa,my _ hx,aa,ma (by omega),aa,kA,aa,my _ h4,aa,EC (by omega),aa,kM (by omega),aa,fU (by omega),aa,sS (aU _) (by omega),aa,my _ h3,aa,
   nR (by omega),aa,nR (by omega),aa,aa,Ph (by omega),aa,mz,aa,N3,fU (by omega),aa,pa (aU _) (by omega),tS,aa,Pg (by omega),aa,cG (by omega),aa]
  have e:t.2+(t.1.getD (i+k) 0+x.ds.getD i 0 * y.ds.getD k 0)=x.ds.getD i 0 * y.ds.getD k 0+t.1.getD (i+k) 0+t.2:=by omega
  rw[e] at ih;exact ih
theorem W75 (x y:NV) (m:af) (K:KT) (hx:x.ds.length < 2 ^ 40) (hy:y.ds.length < 2 ^ 40) (dx:Dg x.ds) (dy:Dg y.ds):∀ j i:Nat,i+j=x.ds.length ->
  Gn x.av y.av (.arr m.length 0 (x.ds.length+y.ds.length) none) (.int .i64 i) (m++[oc (iL x.ds y.ds i)]) K
   = K (.exit 0) (K4 (.arr m.length 0 (x.ds.length+y.ds.length) none) (m++[oc (iL x.ds y.ds x.ds.length)])):=by
 intro j
 induction j with
 | zero=>
  intro i hi;have:i=x.ds.length:=by omega
  subst this;rw[Q4,gZ,aa,dp,aa,az,aj (by omega)]
 | succ j ih=>
  intro i hi;have ih:=ih (i+1) (by omega);rw[Q4,gZ,aa,dp,aa,az,an (by omega)];have hb:=qgQ x y m (Ke K) i (x.ds.length+y.ds.length) (iL x.ds y.ds i,0) (by omega) (wY ..) (by omega) (by omega) dx dy (yZ dx dy i) (by simp) y.ds.length 0 (by omega)
  refine Eq.trans ?_ (hb.trans ?_)
  ·rfl
  obtain ⟨h1,h2⟩:=Bi (i:=i) (s:=(iL x.ds y.ds i,0)) dy (dx i) (yZ dx dy i) (by simp) y.ds.length;have hl:=wZ y.ds (x.ds.getD i 0) i (iL x.ds y.ds i,0) y.ds.length;simp only[wY] at hl;have aU:∀ l,(m++[oc l])[m.length]?=some (oc l):=fun l=>zZ ..
  have tS:∀ l l',(m++[oc l]).set m.length (oc l')=m++[oc l']:=by
   intro l l';rw[tm _ _ (aR _),pP,cD]
  rw[qek,gZ,aa,kM (by omega),aa,mz,aa,kZ h2,fU (by omega),aa,pa (aU _) (by omega),tS,aa,cG (by omega),aa];exact ih
theorem G9 {x y:NV} (hx:NOk x) (hy:NOk y):AP ae 75 [x.av,y.av]=some (bK (x.v * y.v)).av:=by
 have lx:=hx.v_len';have ly:=hy.v_len';have hd:=yZ (gd x.v) (gd y.v) (aB x.v).length;have hlen:=wY (aB x.v) (aB y.v) (aB x.v).length;have hval:=N6 (aB x.v) (aB y.v) (aB x.v).length (aR _);rw[jh (aR _),gj,gj] at hval;refine cW _ _ (iy _) (pK _) (m:=[none]) ?_;rw[T75,cw (cu x),q8 hx.fr,aQ,aa,cw (cu y),q8 hy.fr,aQ,aa];rw[show x.fr.v=x.v from rfl,show y.fr.v=y.v from rfl,o0,aa,o0,aa,kM (by omega),aa,wX (by omega) (by omega),aa];have hw:=W75 (bK x.v) (bK y.v) [] (Kd (aF ae.P f75.results.toList)) (by rw[j8];omega) (by rw[j8];omega) (by rw[j8];exact gd _) (by rw[j8];exact gd _) (aB x.v).length 0 (by rw[j8];omega);simp only[j8] at hw
 refine Eq.trans ?_ (hw.trans ?_)
 ·rfl
 have hp:=w0 (cp:=AP ae) (g:=133) (m:=[]++[oc (iL (aB x.v) (aB y.v) (aB x.v).length)]) (nm:=0) (ds:=iL (aB x.v) (aB y.v) (aB x.v).length) rfl;rw[hlen] at hp;rw[qef,show ([]:af).length=0 from rfl,hp,xP _ hd (by simp only[hlen];omega)];simp only[NV.v] at hval ⊢;rw[hval]
 rfl
theorem qgB (x:NV) (d:Nat) (m:af) (K:KT) (hl:x.ds.length < 2 ^ 40) (dx:Dg x.ds) (hd:0 < d) (kI:d < 4294967296):∀ j k:Nat,k+j=x.ds.length ->
  Ga x.av (.int .u64 d) (.arr m.length 0 x.ds.length none) (.int .u64 (iw x.ds d k).2) (.int .i64 ((j:Int) - 1)) (m++[oc (iw x.ds d k).1]) K
   = K (.exit 0) (KG (.arr m.length 0 x.ds.length none) (.int .u64 (iw x.ds d x.ds.length).2) (m++[oc (iw x.ds d x.ds.length).1])):=by
 intro j
 induction j with
 | zero=>
  intro k hk;have:k=x.ds.length:=by omega
  subst this;rw[QD];simp[kF,aw]
 | succ j ih=>
  intro k hk;have ih:=ih (k+1) (by omega);have hr:=Jb (a:=x.ds) hd k;have hq:=OY (a:=x.ds) dx hd k j;have hlen:=xf x.ds d k;have hj:=dx j;have ej:x.ds.length - 1 - k=j:=by omega
  have mB:∀ a:Nat,a < 4294967296->ag .other .mul (.int .u64 a) (.int .u64 4294967296)=some (.int .u64 (a * 4294967296:Nat)):=fun a h=>EC (b:=4294967296) (by omega)
  have tS:∀ l l',(m++[oc l]).set m.length (oc l')=m++[oc l']:=by
   intro l l';rw[tm _ _ (aR _),pP,cD]
  rw[QD,show ((j+1:Nat):Int) - 1=(j:Nat) by omega,Eh,aa,nE];simp only[iw,ej] at ih;generalize iw x.ds d k=t at *;rw[mB _ (by omega),aa,ma (by omega),aa,kA,aa,my _ hj,aa,nR (by omega),aa,zn (by omega) (by omega),aa,mz,aa,fU (by omega),aa,kZ hq,pa (zZ ..) (by omega),tS,aa,BK (by omega) (by omega),aa,tY (by omega),aa];exact ih
theorem Sb {x:NV} {d:Nat} (hx:NOk x) (hd:0 < d) (kI:d < 4294967296):AP ae 170 [x.av,.int .u64 d]=some (.tup [(bK (x.v / d)).av,.int .u64 (x.v % d:Nat)]):=by
 have lx:=hx.len;obtain ⟨k1,k2⟩:=YL hx.dg hd;refine cW _ _ (wz (wB (x.v / d)) (jV _ _)) rfl (m:=[none]) ?_;rw[qfL,gZ,aa,wX (by omega) (by omega),aa,aa,tY (by omega),aa];have:=qgB x d [] (J0 (aF ae.P f170.results.toList)) lx hx.dg hd kI x.ds.length 0 (by omega);refine this.trans ?_;have hp:=w0 (cp:=AP ae) (g:=133) (m:=[]++[oc (iw x.ds d x.ds.length).1]) (nm:=0) (ds:=(iw x.ds d x.ds.length).1) rfl;rw[xf] at hp;rw[Jc,kV (BD hx.dg hd _)] at k1;rw[qco,show ([]:af).length=0 from rfl,hp,xP _ (BD hx.dg hd _) (by simp only[xf];omega),k2];simp only[aQ,aa,NV.v];rw[qj1 k1]
 rfl
theorem G4 {x:NV} (hx:NOk x):AP ae 157 [x.av]=some (bK (x.v / 2)).av:=by
 refine cW _ _ (iy _) (pK _) (m:=[]) ?_;have h:=Sb (d:=2) (ik hx.v_len') (by omega) (by omega);rw[gA] at h;rw[qfG,cw (cu x),q8 hx.fr,aQ,aa,show x.fr.v=x.v from rfl,fP (iy _) (gu _ _)];simp only[];rw[show AV.int .u64 2=.int .u64 ((2:Nat):Int) from rfl,h]
 rfl
theorem qkJ (ds:List Nat):ds.getD 0 0 % 2=val ds % 2:=by
 cases ds with
 | nil=>rfl
 | cons d ds=>rw[pk,val];omega
theorem G3 {x:NV} (hx:NOk x):AP ae 156 [x.av]=some (.bool (decide (x.v % 2=0))):=by
 have h0:=hx.dg 0;have h:=uG (i:=0) hx.fr (by omega);refine iH (m:=[]) ?_ (px _ _) (by simp[iQ]);rw[qfF,fP (cu x) (gu _ _),show AV.int .i64 0=.int .i64 ((0:Nat):Int) from rfl,h,aQ,aa];simp only[NV.fr];rw[show AV.int .u64 2=.int .u64 ((2:Nat):Int) from rfl,BK (by omega) (by omega),aa,me,aa,qkJ]
 rfl
end Go.Ab
namespace Go.Ab
open Go.Proofs.Tryz
def iR (b:List Nat) (d s:Nat):Nat->List Nat×Nat
 | 0=>(List.replicate s 0,0)
 | i+1=>((iR b d s i).1++[(b.getD i 0 * d+(iR b d s i).2) % 4294967296],(b.getD i 0 * d+(iR b d s i).2) / 4294967296)
theorem Jp (b:List Nat) (d s:Nat):∀ i,(iR b d s i).1.length=s+i
 | 0=>by simp[iR]
 | i+1=>by simp only[iR,aI,Jp b d s i,aJ,aM];omega
theorem Pd {b:List Nat} {d:Nat} (hb:Dg b) (hd:d < 4294967296) (s:Nat):∀ i,(iR b d s i).2 < 4294967296
 | 0=>by simp[iR]
 | i+1=>by
  have:=Pd hb hd s i;have h1:=hb i;have h5:b.getD i 0 * d<=4294967295 * 4294967295:=rZ (by omega) (by omega);simp only[iR];omega
theorem Y9 (b:List Nat) (d s:Nat):∀ i,Dg (iR b d s i).1
 | 0=>ye _
 | i+1=>yc (Y9 b d s i) (uQ (kf _ (by omega)))
theorem Za (b:List Nat) (d s:Nat):∀ i,val (iR b d s i).1+4294967296 ^ (s+i) * (iR b d s i).2=4294967296 ^ s * (vs b i * d)
 | 0=>by simp[iR,Jv,rI]
 | i+1=>by
  have ih:=Za b d s i;simp only[iR,xj,Jp,val,jL];have h1:=Bu (4294967296 ^ (s+i)) 4294967296 (b.getD i 0 * d+(iR b d s i).2);generalize hw:b.getD i 0 * d+(iR b d s i).2=w at *;rw[<- hw,gm,hw] at h1
  have e:4294967296 ^ s * ((vs b i+4294967296 ^ i * b.getD i 0) * d)=4294967296 ^ s * (vs b i * d)+4294967296 ^ (s+i) * (b.getD i 0 * d):=by
   rw[gX,gm,qX,fB,fB]
  rw[e,<- ih,<- mo,jO,n7,ke];omega
def tV (m:af) (i:Nat) (ds:List Nat):NV:=if i=0 then ⟨false,.full,ds⟩ else ⟨false,.tok m.length 161,ds⟩
def tM (m:af) (i:Nat) (ds:List Nat):af:=if i=0 then m else nQ m ds.length
theorem S9 {m:af} {i:Nat} {ds:List Nat} {v:Nat} (h:(ds.length+1) * 4<=gL):cg none false 161 none 4 (tM m i ds) (tV m i ds).av (.lst none false .full [.int .u32 v])=some ((tV m (i+1) (ds++[v])).av,tM m (i+1) (ds++[v])):=by
 by_cases hi:i=0
 ·subst hi;simp only[tV,tM,bq,NV.av,cg,bU,aJ,aM,bf,h,aA,nQ,Sh.size,jM,lL,true_or,kX,fV,qT,dg,aI,Nat.add_eq_zero_iff,Nat.one_ne_zero,and_false,Nat.succ_ne_zero]
 ·have:=C0 (e:=161) (b:=4) (m:=m) (es:=ds.map dg) (z:=false) (o:=.full) (y:=.int .u32 v) (by rw[bU];exact h);rw[bU] at this;simp only[tV,tM,aj hi,NV.av,aj (Nat.succ_ne_zero i)];rw[this];simp[dg]
theorem qgC (x:NV) (d s:Nat) (m:af) (K:KT) (hl:x.ds.length < 2 ^ 40) (dx:Dg x.ds) (hd:d < 4294967296) (hs:s < 2 ^ 40):∀ j i:Nat,i+j=x.ds.length ->
  Gb x.av (.int .u64 d) (tV m i (iR x.ds d s i).1).av (.int .u64 (iR x.ds d s i).2) (.int .i64 i) (tM m i (iR x.ds d s i).1) K
   = K (.exit 0) (KH (tV m x.ds.length (iR x.ds d s x.ds.length).1).av (.int .u64 (iR x.ds d s x.ds.length).2) (tM m x.ds.length (iR x.ds d s x.ds.length).1)):=by
 intro j
 induction j with
 | zero=>
  intro i hi;have:i=x.ds.length:=by omega
  subst this;rw[QE,gZ,aa,dp,aa,az,aj (by omega)]
 | succ j ih=>
  intro i hi;have ih:=ih (i+1) (by omega);have h1:=dx i;have h2:=Pd dx hd s i;have hlen:=Jp x.ds d s i;have h5:x.ds.getD i 0 * d<=4294967295 * 4294967295:=rZ (by omega) (by omega);simp only[iR] at ih
  rw[QE,gZ,aa,dp,aa,az,an (by omega),ma (by omega),aa,kA,aa,my _ h1,aa,EC (by omega),aa,nR (by omega),aa,Ph (by omega),aa,mz,aa,N3,C6,aa,
   S9 (by rw[hlen];simp only[gL];omega),aa,Pg (by omega),aa,cG (by omega),aa]
  exact ih
theorem Sc {x:NV} {d s:Nat} (hx:NOk x) (hd:d < 4294967296) (hs:s < 2 ^ 40):AP ae 172 [x.av,.int .u64 d,.int .i64 s]=some (bK (4294967296 ^ s * (x.v * d))).av:=by
 have lx:=hx.len;have hlen:=Jp x.ds d s x.ds.length;have hc:=Pd hx.dg hd s x.ds.length;have hv:=Za x.ds d s x.ds.length;rw[jh (aR _)] at hv;have hdg:Dg ((iR x.ds d s x.ds.length).1++[(iR x.ds d s x.ds.length).2]):=yc (Y9 _ _ _ _) (uQ hc)
 have lZ:yY none none (.int .u32 0) 4 [] (.int .i64 s) (.int .i64 s)=some ((NV.mk false .full (List.replicate s 0)).av,[]):=by
  have h1:(s:Int) * 4<=281474976710656:=by omega
  have h2:(s:Int)<=9223372036854775807:=by omega
  have h3:(0:Int)<=s:=by omega
  simp only[yY,NV.av,List.map_replicate,dg];rw[an ⟨⟨h3,trivial,h1,h2⟩,rfl,rfl⟩]
  rfl
 refine cW _ _ (iy _) (pK _) (m:=tM [] (x.ds.length+1) ((iR x.ds d s x.ds.length).1++[(iR x.ds d s x.ds.length).2])) ?_;rw[qfN,lZ,aa];refine (qgC x d s [] _ lx hx.dg hd hs x.ds.length 0 (by omega)).trans ?_
 have hfz:Fz (tV [] (x.ds.length+1) ((iR x.ds d s x.ds.length).1++[(iR x.ds d s x.ds.length).2])).av (NV.mk false .no ((iR x.ds d s x.ds.length).1++[(iR x.ds d s x.ds.length).2])).av:=by
  have:=cu (tV [] (x.ds.length+1) ((iR x.ds d s x.ds.length).1++[(iR x.ds d s x.ds.length).2]));unfold tV at this ⊢;rw[aj (by omega)] at this ⊢;exact this
 rw[qcr,mz,aa,C6,aa,kZ hc,S9 (by rw[hlen];simp only[gL];omega),aa,cw hfz,xP _ hdg (by simp only[aI,hlen,aJ,aM];omega)];simp only[aQ,aa,NV.v] at hv ⊢;rw[xj,hlen,val,val,n7,ke,hv]
theorem qnS {a b p q top lead:Nat} (hq:q * b<=a) (ha:a < (top+1) * p) (hb:lead * p<=b) (hl:0 < lead):q<=top / lead:=by
 rw[Gw hl];have h1:q * lead * p<=q * b:=by rw[fB];exact kE _ hb
 have h2:q * lead * p < (top+1) * p:=by omega
 have:=Gx h2;omega
theorem qnR {a b p top lead:Nat} (ha:top * p<=a) (hb:b<=(lead+1) * p) (hb0:0 < b):top / (lead+1)<=a / b:=by
 rw[Gw hb0];have h1:top / (lead+1) * b<=top / (lead+1) * ((lead+1) * p):=kE _ hb;rw[<- fB] at h1;have h2:top / (lead+1) * (lead+1) * p<=top * p:=iO _ (Gv _ _);omega
theorem qpq {a:List Nat} {k:Nat} (ha:Dg a) (h:val a < 4294967296 ^ (k+2)):(a.getD (k+1) 0 * 4294967296+a.getD k 0) * 4294967296 ^ k<=val a/\val a < (a.getD (k+1) 0 * 4294967296+a.getD k 0+1) * 4294967296 ^ k:=by
 have h1:val a=vs a (k+2):=by
  have hz:∀ j,vs a (k+2+j)=vs a (k+2):=by
   intro j
   induction j with
   | zero=>rfl
   | succ j ih=>
    rw[<- mo,jL,ih];have hle:=Zt a (k+2+j+1);rw[jL] at hle;have hp:4294967296 ^ (k+2)<=4294967296 ^ (k+2+j):=pO (by omega) (by omega)
    have h0:a.getD (k+2+j) 0=0:=by
     apply qk;intro hn;have:4294967296 ^ (k+2+j) * 1<=4294967296 ^ (k+2+j) * a.getD (k+2+j) 0:=kE _ (by omega);omega
    rw[h0,n7,ke]
  rw[<- jh (a:=a) (i:=k+2+a.length) (by omega)];exact hz a.length
 have h2:=xn ha k;rw[h1,jL,jL,jO,gX _ 1,gX,fB,cP (4294967296 ^ k) (a.getD k 0),cP (4294967296 ^ k) 4294967296,cP (4294967296 * 4294967296 ^ k)];omega
theorem qgc {x y:NV} {i n:Nat} (hx:NOk x) (hy:NOk y) (hi:i < 2 ^ 40) (hn:y.ds.length=n) (lG:1<=n) (qlj:y.ds.getD (n - 1) 0≠0) (hq:x.v / (y.v * 4294967296 ^ i) < 4294967296) :
  ∃ lo hi:Nat,AP ae 171 [x.av,y.av,.int .i64 i]=some (.tup [.int .u64 lo,.int .u64 hi])/\lo<=x.v / (y.v * 4294967296 ^ i)/\x.v / (y.v * 4294967296 ^ i)<=hi/\hi < 4294967296:=by
 have lx:=hx.len;have ly:=hy.len;obtain ⟨k,rfl⟩:∃ k,n=k+1:=⟨n - 1,by omega⟩;rw[pn] at qlj;have yS:y.v=vs y.ds k+4294967296 ^ k * y.ds.getD k 0:=by rw[NV.v,<- jh (Nat.le_of_eq hn),jL]
 have gR:=xn hy.dg k;have wH:=hy.dg k;have Nf:0 < 4294967296 ^ i:=Nat.pow_pos (by omega);have sH:0 < 4294967296 ^ k:=Nat.pow_pos (by omega)
 have hyp:0 < y.v:=by
  rw[yS];have:4294967296 ^ k * 1<=4294967296 ^ k * y.ds.getD k 0:=kE _ (by omega);omega
 have hb0:0 < y.v * 4294967296 ^ i:=Nat.mul_pos hyp Nf
 have hb1:y.ds.getD k 0 * 4294967296 ^ (k+i)<=y.v * 4294967296 ^ i:=by
  rw[qX,<- fB];exact iO _ (by rw[yS,cP];omega)
 have hb2:y.v * 4294967296 ^ i<=(y.ds.getD k 0+1) * 4294967296 ^ (k+i):=by
  rw[qX,<- fB];refine iO _ ?_;rw[yS,gX,qW,cP];omega
 have ql1:val x.ds < 4294967296 ^ (k+i+2):=by
  rw[uD hb0] at hq;have h1:(y.ds.getD k 0+1) * 4294967296 ^ (k+i)<=4294967296 * 4294967296 ^ (k+i):=iO _ wH;have h2:4294967296 * (y.v * 4294967296 ^ i)<=4294967296 * (4294967296 * 4294967296 ^ (k+i)):=kE _ (fA hb2 h1);rw[jO,jO]
  have h3:4294967296 ^ (k+i) * 4294967296 * 4294967296=4294967296 * (4294967296 * 4294967296 ^ (k+i)):=by
   rw[cP,cP (4294967296 ^ (k+i))]
  rw[h3];exact qU hq h2
 obtain ⟨t1,t2⟩:=qpq hx.dg ql1;have d1:=hx.dg (k+i+1);have d2:=hx.dg (k+i);have qle:x.v / (y.v * 4294967296 ^ i)<=(x.ds.getD (k+i+1) 0 * 4294967296+x.ds.getD (k+i) 0) / y.ds.getD k 0:=qnS (Gv _ _) t2 hb1 (by omega);have qge:(x.ds.getD (k+i+1) 0 * 4294967296+x.ds.getD (k+i) 0) / (y.ds.getD k 0+1)<=x.v / (y.v * 4294967296 ^ i):=qnR t1 hb2 hb0;have hfz:=wz (jV .u64 0) (jV .u64 0)
 have key:∃ lo hi:Nat,AC ae 171 [x.av,y.av,.int .i64 i] []=some (.tup [.int .u64 lo,.int .u64 hi],[])/\lo<=x.v / (y.v * 4294967296 ^ i)/\x.v / (y.v * 4294967296 ^ i)<=hi/\hi < 4294967296:=by
  have e1:i+(k+1)=k+i+1:=by omega
  have uB:∀ a:Nat,ag .other .lss (.int .u64 a) (.int .u64 4294967295)=some (.bool (decide (a < 4294967295))):=fun a=>dp (b:=4294967295);have u0:∀ a:Nat,ag .other .gtr (.int .u64 0) (.int .u64 a)=some (.bool (decide (0 > a))):=fun a=>Bj (a:=0);have u0B:ag .other .gtr (.int .u64 0) (.int .u64 4294967295)=some (.bool false):=rfl;have uaB:∀ a:Nat,ag .other .gtr (.int .u64 a) (.int .u64 4294967295)=some (.bool (decide (a > 4294967295))):=fun a=>Bj (b:=4294967295);have ua1:∀ a:Nat,a < 4294967296->ag .other .add (.int .u64 a) (.int .u64 1)=some (.int .u64 (a+1:Nat)):=fun a h=>nR (b:=1) (by omega);rw[qfM,gZ,hn,aa,kM (by omega),aa,fP (cu x) (gu _ _),uG hx.fr (by omega),aQ,aa];rw[show x.fr.ds=x.ds from rfl,e1,EE (hx.dg _),aa,aa,oC (by omega) (by omega),aa,pn,fP (cu x) (gu _ _),uG hx.fr (by omega),aQ,aa];rw[show x.fr.ds=x.ds from rfl,ED (hx.dg _) (hx.dg _),aa,oC (by omega) (by omega),aa,pn,ma (by omega),aa,kA,aa,my _ wH,aa,zn (by omega) (by omega),aa,uB,aa,az];have hdl:=Af (x.ds.getD (k+i+1) 0 * 4294967296+x.ds.getD (k+i) 0) (y.ds.getD k 0+1);have uq:ag .other .quo (.int .u64 (x.ds.getD (k+i+1) 0 * 4294967296+x.ds.getD (k+i) 0:Nat)) (.int .u64 (y.ds.getD k 0+1:Nat))=some (.int .u64 ((x.ds.getD (k+i+1) 0 * 4294967296+x.ds.getD (k+i) 0) / (y.ds.getD k 0+1):Nat)):=zn (by omega) (by omega)
  by_cases c1:(x.ds.getD (k+i+1) 0 * 4294967296+x.ds.getD (k+i) 0) / y.ds.getD k 0 < 4294967295
  ·rw[an c1,aa,ua1 _ wH,aa,IH,aa,az]
   by_cases c2:y.ds.getD k 0+1 < 4294967296
   ·rw[an c2,aa,uq,aa,IH,aa,az]
    by_cases c3:(x.ds.getD (k+i+1) 0 * 4294967296+x.ds.getD (k+i) 0) / (y.ds.getD k 0+1) < 4294967296
    ·rw[an c3,aa,uq,aa,Bj,aa,az,aj (by omega)];exact ⟨_,_,rfl,qge,qle,by omega⟩
    ·rw[aj c3,u0,aa,az,aj (Nat.not_lt_zero _)];exact ⟨0,_,rfl,mw _,qle,by omega⟩
   ·rw[aj c2,u0,aa,az,aj (Nat.not_lt_zero _)];exact ⟨0,_,rfl,mw _,qle,by omega⟩
  ·rw[aj c1,ua1 _ wH,aa,IH,aa,az]
   by_cases c2:y.ds.getD k 0+1 < 4294967296
   ·rw[an c2,aa,uq,aa,IH,aa,az]
    by_cases c3:(x.ds.getD (k+i+1) 0 * 4294967296+x.ds.getD (k+i) 0) / (y.ds.getD k 0+1) < 4294967296
    ·rw[an c3,aa,uq,aa,uaB,aa,az,aj (by omega)];exact ⟨_,4294967295,rfl,qge,by omega,by omega⟩
    ·rw[aj c3,u0B,aa,ng];exact ⟨0,4294967295,rfl,mw _,by omega,by omega⟩
   ·rw[aj c2,u0B,aa,ng];exact ⟨0,4294967295,rfl,mw _,by omega,by omega⟩
 obtain ⟨lo,fK,k1,k2⟩:=key;exact ⟨lo,fK,cW _ _ (wz (jV _ _) (jV _ _)) rfl k1,k2⟩
end Go.Ab
namespace Go.Ab
open Go.Proofs.Tryz
theorem TO {b s d:Nat} (hd:d < 4294967296):(aB (4294967296 ^ s * (b * d))).length<=s+((aB b).length+1):=by
 refine oL ?_;rw[qX];refine Nat.mul_lt_mul_of_pos_left ?_ (Nat.pow_pos (by omega));have h:=mO (gd b);rw[gj] at h;rw[jO];exact Nat.mul_lt_mul'' h hd
theorem qgy {a b i q:Nat} (K:KT) (x9:AV) (m:af) (la:(aB a).length < 2 ^ 40) (lb:(aB b).length < 2 ^ 40) (hi:i < 2 ^ 39) (lb2:(aB b).length+i+1 < 2 ^ 40) (hq:q=a / (b * 4294967296 ^ i)) (hb:0 < b):∀ (r lo fK:Nat),fK - lo<=r->lo<=q->q<=fK->fK < 4294967296 ->
  Ce (bK a).av (bK b).av x9 (.int .i64 i) (.int .u64 lo) (.int .u64 fK) m K=K (.exit 2) (KD (bK a).av (bK b).av x9 (.int .i64 i) (.int .u64 q) m):=by
 have Nf:0 < 4294967296 ^ i:=Nat.pow_pos (by omega);have hbp:0 < b * 4294967296 ^ i:=Nat.mul_pos hb Nf;intro r
 induction r with
 | zero=>
  intro lo fK hr h1 h2 h3;have:lo=q:=by omega
  subst this;rw[Qr,dp,aa,az,aj (by omega)]
 | succ r ih=>
  intro lo fK hr h1 h2 h3;rw[Qr,dp,aa,az]
  by_cases hlt:lo < fK
  ·have u1:∀ a:Nat,a < 4294967296->ag .other .add (.int .u64 a) (.int .u64 1)=some (.int .u64 (a+1:Nat)):=fun a h=>nR (b:=1) (by omega);have u2:∀ a:Nat,a < 4294967298->ag .other .quo (.int .u64 a) (.int .u64 2)=some (.int .u64 (a / 2:Nat)):=fun a h=>zn (b:=2) (by omega) (by omega);rw[an hlt,zp (by omega) (by omega),aa,u1 _ (by omega),aa,u2 _ (by omega),aa,nR (by omega),aa];generalize Vl:lo+(fK - lo+1) / 2=mid;have lE:lo < mid:=by omega
   have fO:mid<=fK:=by omega
   have hpl:=TO (b:=b) (s:=i) (d:=mid) (by omega);rw[IS (iy b) (gu _ _) (gu _ _),Sc (ik lb) (by omega) (by omega),aQ,aa,gA,fP (iy _) (iy a),xU (ik (by omega)) (ik la),aQ,aa,sg,aa,az,gA,gA]
   have HR:gE (4294967296 ^ i * (b * mid)) a<=0↔mid<=q:=by
    rw[hq,Gw hbp];have e:mid * (b * 4294967296 ^ i)=4294967296 ^ i * (b * mid):=by rw[cP,cP b,fB]
    rw[e];unfold gE
    constructor
    ·intro h;apply vS;intro hc;rw[aj (by omega),an hc] at h;omega
    ·intro h
     split
     ·omega
     ·rw[aj (by omega)];omega
   by_cases hc:mid<=q
   ·rw[an (HR.2 hc)];exact ih mid fK (by omega) hc h2 h3
   ·rw[aj (fun h=>hc (HR.1 h)),Jr (by omega) (by omega),aa];exact ih lo (mid - 1) (by omega) h1 (by omega) (by omega)
  ·have:lo=q:=by omega
   subst this;rw[aj hlt]
structure DInv (a0 b la j:Nat) (a:Nat) (q:List Nat):Prop where
 dq:Dg q
 lq:q.length=la
 lt:a < b * 4294967296 ^ j
 eq:wn q j (la - j) * (b * 4294967296 ^ j)+a=a0
theorem DInv.step {a0 b la j a:Nat} {q:List Nat} (hb:0 < b) (hj:j < la) (h:DInv a0 b la (j+1) a q) :
  a / (b * 4294967296 ^ j) < 4294967296/\DInv a0 b la j (a % (b * 4294967296 ^ j)) (q.set j (a / (b * 4294967296 ^ j))):=by
 have hp:0 < b * 4294967296 ^ j:=Nat.mul_pos hb (Nat.pow_pos (by omega));have e0:b * 4294967296 ^ (j+1)=4294967296 * (b * 4294967296 ^ j):=by rw[jO,<- fB,cP]
 have hlt:=h.lt;have heq:=h.eq;rw[e0] at hlt heq;have hq:a / (b * 4294967296 ^ j) < 4294967296:=by rw[uD hp];exact hlt
 refine ⟨hq,h.dq.set _ _ hq,by rw[aZ,h.lq],kf _ hp,?_⟩;obtain ⟨r,hr⟩:∃ r,la - j=r+1:=⟨la - j - 1,by omega⟩;rw[hr,ES,rm (by rw[h.lq];exact hj),um (by omega),<- heq,show la - (j+1)=r by omega];have h2:=vR a (b * 4294967296 ^ j);generalize b * 4294967296 ^ j=p at *;rw[gX,cP (a / p),cP 4294967296,fB];omega
theorem qgx {a0 b la:Nat} (K:KT) (hb:0 < b) (lla:la < 2 ^ 39) (l0:(aB a0).length < 2 ^ 39) (lb:(aB b).length < 2 ^ 39):∀ (j a:Nat) (q:List Nat),j<=la->a<=a0->DInv a0 b la j a q ->
  ∃ a' q',DInv a0 b la 0 a' q'/\FV (bK a).av (bK b).av (.arr 0 0 la none) (.int .i64 ((j:Int) - 1)) [oc q] K=K (.exit 0) (KC (bK a').av (.arr 0 0 la none) [oc q']):=by
 intro j
 induction j with
 | zero=>
  intro a q _ _ hI;refine ⟨a,q,hI,?_⟩;rw[Qq];simp[kF,aw]
 | succ j ih=>
  intro a q hj ha hI;obtain ⟨hq,Ds⟩:=hI.step hb (by omega);have la':(aB a).length < 2 ^ 39:=jr (kR ha) l0;have yB:=hI.lq;obtain ⟨a',q',i1,i2⟩:=ih _ _ (by omega) (fA (Nat.mod_le _ _) ha) Ds;refine ⟨a',q',i1,?_⟩;have lA:b≠0:=by omega
  have vc:(aB b).length≠0:=fun e=>lA (mS.1 e);obtain ⟨lo,fK,g1,g2,g3,g4⟩:=qgc (i:=j) (n:=(aB b).length) (ik (n:=a) (by omega)) (ik (n:=b) (by omega)) (by omega) (by rw[j8]) (by omega) (by rw[j8];exact Hv lA) (by rw[gA,gA];exact hq);rw[gA,gA] at g2 g3;rw[Qq,show ((j+1:Nat):Int) - 1=(j:Nat) by omega,Eh,aa,nE,IS (iy a) (iy b) (gu _ _),g1,aQ,aa];simp only[ba]
  rw[show ([AV.int .u64 lo,AV.int .u64 fK]:List AV)[0]?=some (.int .u64 lo) from rfl,show ([AV.int .u64 lo,AV.int .u64 fK]:List AV)[1]?=some (.int .u64 fK) from rfl,aa,aa,
   qgy (JT K) _ _ (by omega) (by omega) (by omega) (by omega) rfl hb (fK - lo) lo fK (aR _) g2 g3 g4]
  have hpl:=TO (b:=b) (s:=j) (d:=a / (b * 4294967296 ^ j)) hq;have he:4294967296 ^ j * (b * (a / (b * 4294967296 ^ j)))=b * 4294967296 ^ j * (a / (b * 4294967296 ^ j)):=by rw[<- fB,cP b]
  have gS:a - 4294967296 ^ j * (b * (a / (b * 4294967296 ^ j)))=a % (b * 4294967296 ^ j):=by
   rw[he];have:=vR a (b * 4294967296 ^ j);omega
  have hle:¬ a < 4294967296 ^ j * (b * (a / (b * 4294967296 ^ j))):=by
   rw[he];have:=vR a (b * 4294967296 ^ j);omega
  rw[qbE,mz,aa,kZ hq,fU (by omega),aa,pa (m:=[oc q]) (n:=0) (ds:=q) rfl (by omega),aa,IS (iy b) (gu _ _) (gu _ _),Sc (ik (n:=b) (by omega)) hq (by omega),aQ,aa,gA,
   fP (iy a) (iy (4294967296 ^ j * (b * (a / (b * 4294967296 ^ j))))),CQ (ik (n:=a) (by omega)) (ik (n:=4294967296 ^ j * (b * (a / (b * 4294967296 ^ j)))) (by omega)) (jH a) (jH (4294967296 ^ j * (b * (a / (b * 4294967296 ^ j))))),aQ,aa]
  unfold BF;rw[gA,gA,aj hle,gS];simp only[ba];rw[show ([(bK (a % (b * 4294967296 ^ j))).av,AV.int .i64 0]:List AV)[0]?=some (bK (a % (b * 4294967296 ^ j))).av from rfl,show ([(bK (a % (b * 4294967296 ^ j))).av,AV.int .i64 0]:List AV)[1]?=some (.int .i64 0) from rfl,aa,aa,tY (by omega),aa];exact i2
def LR (x y:NV):AV:=if y.v=0 then .tup [Bm,Bm,.int .i64 31] else .tup [(bK (x.v / y.v)).av,(bK (x.v % y.v)).av,.int .i64 0]
theorem qn5:(bK 0).av=au:=by rw[bK,lh];rfl
theorem R6 {x y:NV} (hx:NOk x) (hy:NOk y) (lx:(aB x.v).length < 2 ^ 39) (ly:(aB y.v).length < 2 ^ 39):AP ae 137 [x.av,y.av]=some (LR x y):=by
 have e1:=q8 hx.fr;have e2:=q8 hy.fr;rw[show x.fr.v=x.v from rfl] at e1;rw[show y.fr.v=y.v from rfl] at e2;have hX:=ik (n:=x.v) (by omega);have hY:=ik (n:=y.v) (by omega);unfold LR
 by_cases h0:y.v=0
 ·rw[an h0];refine cW _ _ (wA AA AA (jV _ _)) rfl (m:=[]) ?_;rw[GZ,cw (cu x),e1,aQ,aa,cw (cu y),e2,aQ,aa,o0,aa,me,aa,az,an (mS.2 h0)]
 ·rw[aj h0];have lF:¬ (aB y.v).length=0:=fun e=>h0 (mS.1 e)
  by_cases h2:y.v < 4294967296
  ·have lG:(aB y.v).length=1:=Hw.2 ⟨h0,h2⟩
   have MF:(aB y.v).getD 0 0=y.v:=by
    rw[yf h0,pk,kZ h2]
   have hlt:x.v % y.v < y.v:=kf _ (by omega);refine cW _ _ (wA (wB (x.v / y.v)) (wB (x.v % y.v)) (jV _ _)) rfl (m:=[]) ?_;have e4:=Sb (d:=y.v) hX (by omega) h2;rw[gA] at e4
   rw[GZ,cw (cu x),e1,aQ,aa,cw (cu y),e2,aQ,aa,o0,aa,me,aa,az,aj lF,aa,vw,aa,az,an lG,
    Ip (by rw[j8,lG];omega),aa,kA,aa,j8,MF,my _ h2,aa,fP (iy _) (gu _ _),e4,aQ,aa]
   simp only[ba]
   rw[show ([(bK (x.v / y.v)).av,AV.int .u64 (x.v % y.v:Nat)]:List AV)[0]?=some (bK (x.v / y.v)).av from rfl,show ([(bK (x.v / y.v)).av,AV.int .u64 (x.v % y.v:Nat)]:List AV)[1]?=some (AV.int .u64 (x.v % y.v:Nat)) from rfl,aa,aa,
    cw (gu _ _),G6 (by omega),aQ,aa]
  ·have lG:¬ (aB y.v).length=1:=fun e=>h2 (Hw.1 e).2
   by_cases h3:(aB x.v).length < (aB y.v).length
   ·have hlt:x.v < y.v:=by
     apply Nat.lt_of_not_le;intro h;have:=kR h;omega
    rw[Nat.div_eq_of_lt hlt,kZ hlt];refine cW _ _ (wA (wB 0) (wB x.v) (jV _ _)) rfl (m:=[]) ?_
    rw[GZ,cw (cu x),e1,aQ,aa,cw (cu y),e2,aQ,aa,o0,aa,me,aa,az,aj lF,aa,vw,aa,az,aj lG,
     o0,aa,aa,dp,aa,az,an h3,qn5]
   ·have hb:0 < y.v:=oJ h0
    have hI:DInv x.v y.v (aB x.v).length ((aB x.v).length - (aB y.v).length+1) x.v (List.replicate (aB x.v).length 0):=by
     refine ⟨ye _,uy,?_,?_⟩
     ·have h4:=mO (gd x.v);rw[gj] at h4;have h5:=Hx (n:=y.v) (k:=(aB y.v).length - 1) (by omega);refine qU h4 ?_;refine fA ?_ (iO _ h5);rw[<- qX];exact pO (by omega) (by omega)
     ·rw[PB _ (fun k _=>HK _ _),xN,bf]
    obtain ⟨a',q',i1,i2⟩:=qgx (JS (aF ae.P f137.results.toList)) hb lx lx ly _ _ _ (by omega) (aR _) hI;have heq:=i1.eq;have hlt:=i1.lt;have yB:=i1.lq;rw[Nat.pow_zero,mq] at heq hlt;rw[Nat.sub_zero,ET,jh (by omega)] at heq;obtain ⟨k1,k2⟩:=wm heq.symm hlt;refine cW _ _ (wA (wB (x.v / y.v)) (wB (x.v % y.v)) (jV _ _)) rfl (m:=[none]) ?_;have hp:=w0 (cp:=AP ae) (g:=133) (m:=[oc q']) (nm:=0) (ds:=q') rfl;rw[yB] at hp
    rw[GZ,cw (cu x),e1,aQ,aa,cw (cu y),e2,aQ,aa,o0,aa,me,aa,az,aj lF,aa,vw,aa,az,aj lG,
     o0,aa,aa,dp,aa,az,aj h3,aa,wX (by omega) (by omega),aa,aa,aa,nc (by omega) (by omega),aa]
    rw[show (((aB x.v).length - (aB y.v).length+1:Nat):Int) - 1=(((aB x.v).length - (aB y.v).length:Nat):Int) by omega] at i2
    refine Eq.trans ?_ (i2.trans ?_)
    ·rfl
    rw[qbz,hp,xP _ i1.dq (by simp only[yB];omega),aQ,aa];simp only[NV.v] at k1 k2 ⊢;rw[k1,k2]
    rfl
end Go.Ab
namespace Go.Ab
open Go.Proofs.Tryz
theorem qps {tk:TK} {a:Nat} (h:a < 4294967296):ag tk .quo (.int .u32 a) (.int .u32 2)=some (.int .u32 (a / 2:Nat)):=by
 have e:ag tk .quo (.int .u32 a) (.int .u32 2)=some (.int .u32 (IntKind.wrap .u32 ((a:Int).tdiv 2))):=by cases tk<;>rfl
 have e2:(a:Int).tdiv 2=((a / 2:Nat):Int):=rfl;rw[e,e2,zx (by omega) (by omega)]
theorem qgw (K:KT) (m:af):∀ (r x n:Nat),x < 2 ^ r->r<=32->n+r < 2 ^ 60->∃ k,k<=n+r/\(0 < n\/0 < x->0 < k)/\(n=0->x=0->k=0)/\FU (.int .i64 n) (.int .u32 x) m K=K (.exit 0) (KB (.int .i64 k) m):=by
 intro r
 induction r with
 | zero=>
  intro x n hx hr hn;have:x=0:=by simpa using hx
  subst this;refine ⟨n,by omega,by omega,fun h _=>h,?_⟩;rw[Qp,vx,aa,az,aj (by omega)]
 | succ r ih=>
  intro x n hx hr hn;rw[Qp,vx,aa,az]
  by_cases h:x > 0
  ·have hp:2 ^ (r+1)<=2 ^ 32:=pO (by omega) hr;rw[an h,cG (by omega),aa,qps (by omega),aa];rw[jO] at hx;obtain ⟨k,k1,k2,k3,k4⟩:=ih (x / 2) (n+1) (by omega) (by omega) (by omega);exact ⟨k,by omega,fun _=>k2 (.inl (by omega)),by omega,k4⟩
  ·rw[aj h];exact ⟨n,by omega,by omega,fun h _=>h,rfl⟩
theorem qf6 {x:NV} (hx:NOk x):∃ k:Nat,AP ae 136 [x.av]=some (.int .i64 k)/\(k=0↔x.v=0):=by
 have lx:=hx.v_len';have e1:=q8 hx.fr;rw[show x.fr.v=x.v from rfl] at e1
 by_cases h0:x.v=0
 ·refine ⟨0,iH (m:=[]) (v:=.int .i64 (0:Nat)) ?_ (gu _ _ _) (by simp[iQ]),by simp[h0]⟩;rw[RJ,cw (cu x),e1,aQ,aa,o0,aa,me,aa,az,an (mS.2 h0)]
  rfl
 ·have lF:¬ (aB x.v).length=0:=fun e=>h0 (mS.1 e);have oS:=Hv h0;have hd:=gd x.v ((aB x.v).length - 1);obtain ⟨k,k1,k2,k3,k4⟩:=qgw (JR (aF ae.P f136.results.toList)) [] 32 ((aB x.v).getD ((aB x.v).length - 1) 0) (32 * ((aB x.v).length - 1)) (by omega) (by omega) (by omega)
  have m32:∀ a:Nat,a < 2 ^ 41->ag .other .mul (.int .i64 32) (.int .i64 a)=some (.int .i64 (32 * a:Nat)):=by
   intro a ha;rw[we,iK (by omega) (by omega)];rfl
  have tN:=k2 (.inr (oJ oS));refine ⟨k,iH (m:=[]) (v:=.int .i64 (k:Nat)) ?_ (gu _ _ _) (by simp[iQ]),by omega⟩;rw[RJ,cw (cu x),e1,aQ,aa,o0,aa,me,aa,az,aj lF,aa,oC (by omega) (by omega),aa,m32 _ (by omega),aa,aa,oC (by omega) (by omega),aa,ma (by rw[j8];omega),aa,kA,aa,j8];refine k4.trans ?_;rw[qbw]
theorem L3 {a:Nat} (h:a % 2=0):2 * (a / 2)=a:=by omega
theorem Uo {a b:Nat} (ha:a % 2=0) (hb:b % 2=1):Nat.gcd (a / 2) b=Nat.gcd a b:=by
 have hc:Nat.Coprime 2 b:=by
  rw[Nat.coprime_iff_gcd_eq_one,Nat.gcd_rec,hb]
  rfl
 have:=Nat.Coprime.gcd_mul_left_cancel (a / 2) hc;rw[L3 ha] at this;exact this.symm
theorem HQ {a:Nat} (h:(aB a).length < 2 ^ 39):(aB (a / 2)).length < 2 ^ 39:=jr (kR (Af _ _)) h
theorem qgr (K:KT) (m:af):∀ (n x y:Nat),y=n->x < 18446744073709551616->y < 18446744073709551616->FL (.int .u64 x) (.int .u64 y) m K=K (.exit 0) (Ku (.int .u64 (Nat.gcd x y:Nat)) m):=by
 intro n
 induction n using Nat.strongRecOn with
 | ind n ih=>
  intro x y hn hx hy;rw[qeO,W6,aa,az]
  by_cases h:y=0
  ·rw[aj (fun hh=>hh h),h,Nat.gcd_zero_right]
  ·have hlt:x % y < y:=kf _ (oJ h);rw[an h,BK h hx,aa,ih (x % y) (by omega) y (x % y) rfl hy (by omega),uE y,<- Nat.gcd_rec,uE]
theorem qgn (K:KT) (m:af):∀ (n a b t:Nat),a=n->0 < a->0 < b->0 < t->(aB (a * t)).length < 2 ^ 39->(aB a).length < 2 ^ 39->(aB b).length < 2 ^ 39->(aB t).length < 2 ^ 39 ->
  ∃ a' b' t',0 < a'/\0 < b'/\0 < t'/\a'<=a/\b'<=b/\(a' % 2=1\/b' % 2=1)/\Nat.gcd a' b' * t'=Nat.gcd a b * t/\(aB t').length < 2 ^ 39/\zL (bK a).av (bK b).av (bK t).av m K=K (.exit 2) (GD (bK a').av (bK b').av (bK t').av m):=by
 intro n
 induction n using Nat.strongRecOn with
 | ind n ih=>
  intro a b t hn ha hb ht iv la lb lt;rw[qeK,cw (iy a),G3 (ik (by omega)),gA,aQ,aa,az]
  by_cases h1:a % 2=0
  ·rw[an h1,cw (iy b),G3 (ik (by omega)),gA,aQ,aa,az]
   by_cases h2:b % 2=0
   ·have ea:=L3 h1;have eb:=L3 h2
    have e:a / 2 * (t+t)=a * t:=by
     rw[<- Nat.mul_two,<- fB,Nat.mul_right_comm,cP (a / 2) 2,ea]
    have ltt:(aB (t+t)).length < 2 ^ 39:=by
     refine jr (kR (b:=a * t) ?_) iv;rw[<- e];exact Nat.le_mul_of_pos_left _ (by omega)
    obtain ⟨a',b',t',k1,k2,k3,k4,k5,k6,k7,k8,k9⟩:=ih (a / 2) (by omega) (a / 2) (b / 2) (t+t) rfl (by omega) (by omega) (by omega) (by rw[e];exact iv) (HQ la) (HQ lb) ltt
    refine ⟨a',b',t',k1,k2,k3,by omega,by omega,k6,?_,k8,?_⟩
    ·rw[k7]
     have:Nat.gcd a b=2 * Nat.gcd (a / 2) (b / 2):=by
      conv=>lhs;rw[<- ea,<- eb]
      exact Nat.gcd_mul_left _ _ _
     rw[this,<- Nat.mul_two,<- fB,Nat.mul_right_comm,cP _ 2]
    ·rw[an h2,cw (iy a),G4 (ik (by omega)),gA,aQ,aa,cw (iy b),G4 (ik (by omega)),gA,aQ,aa,fP (iy t) (iy t),Sl (ik (by omega)) (ik (by omega)) (jH _) (jH _),gA,aQ,aa];exact k9
   ·rw[aj h2];exact ⟨a,b,t,ha,hb,ht,aR _,aR _,.inr (by omega),rfl,lt,rfl⟩
  ·rw[aj h1];exact ⟨a,b,t,ha,hb,ht,aR _,aR _,.inl (by omega),rfl,lt,rfl⟩
theorem qgp (K:KT) (m:af) (xb xt:AV) (b:Nat):∀ (n a:Nat),a=n->0 < a->(a % 2=1\/b % 2=1)->(aB a).length < 2 ^ 39 ->
  ∃ a',0 < a'/\a'<=a/\a' % 2=1/\Nat.gcd a' b=Nat.gcd a b/\FJ (bK a).av xb xt m K=K (.exit 6) (Ks (bK a').av xb xt m):=by
 intro n
 induction n using Nat.strongRecOn with
 | ind n ih=>
  intro a hn ha lY la;rw[qeM,cw (iy a),G3 (ik (by omega)),gA,aQ,aa,az]
  by_cases h1:a % 2=0
  ·have hb1:b % 2=1:=by omega
   obtain ⟨a',k1,k2,k3,k4,k5⟩:=ih (a / 2) (by omega) (a / 2) rfl (by omega) (.inr hb1) (HQ la);rw[an h1,cw (iy a),G4 (ik (by omega)),gA,aQ,aa];exact ⟨a',k1,by omega,k3,by rw[k4,Uo h1 hb1],k5⟩
  ·rw[aj h1];exact ⟨a,ha,aR _,by omega,rfl,rfl⟩
theorem qgq (K:KT) (m:af) (xa xt:AV) (a:Nat) (ha:a % 2=1):∀ (n b:Nat),b=n->0 < b->(aB b).length < 2 ^ 39 ->
  ∃ b',0 < b'/\b'<=b/\b' % 2=1/\Nat.gcd a b'=Nat.gcd a b/\FK xa (bK b).av xt m K=K (.exit 8) (Kt xa (bK b').av xt m):=by
 intro n
 induction n using Nat.strongRecOn with
 | ind n ih=>
  intro b hn hb lb;rw[qeN,cw (iy b),G3 (ik (by omega)),gA,aQ,aa,az]
  by_cases h1:b % 2=0
  ·obtain ⟨b',k1,k2,k3,k4,k5⟩:=ih (b / 2) (by omega) (b / 2) rfl (by omega) (HQ lb);rw[an h1,cw (iy b),G4 (ik (by omega)),gA,aQ,aa];exact ⟨b',k1,by omega,k3,by rw[k4,uE a,Uo h1 ha,uE],k5⟩
  ·rw[aj h1];exact ⟨b,hb,aR _,by omega,rfl,rfl⟩
theorem qgo (K:KT) (m:af) (xt:AV):∀ (n a b:Nat),a+b=n->0 < a->(a % 2=1\/b % 2=1)->(aB a).length < 2 ^ 39->(aB b).length < 2 ^ 39 ->
  Cb (bK a).av (bK b).av xt m K=K (.exit 4) (Kr (bK (Nat.gcd a b)).av xt m):=by
 intro n
 induction n using Nat.strongRecOn with
 | ind n ih=>
  intro a b hn ha lY la lb;rw[qeL,o0,aa,vx,aa,az]
  by_cases hb:b=0
  ·rw[aj (by rw[hb,lh];simp),hb,Nat.gcd_zero_right]
  ·have vc:(aB b).length≠0:=fun e=>hb (mS.1 e);obtain ⟨a',k1,k2,k3,k4,k5⟩:=qgp (JK K) m (bK b).av xt b a a rfl ha lY la;obtain ⟨b',j1,j2,j3,j4,j5⟩:=qgq (JL K) m (bK a').av xt a' k3 b b rfl (by omega) lb;have la':(aB a').length < 2 ^ 39:=jr (kR k2) la;have lb':(aB b').length < 2 ^ 39:=jr (kR j2) lb;rw[an (by omega),k5,qaG,j5,qaK,fP (iy a') (iy b'),xU (ik (by omega)) (ik (by omega)),gA,gA,aQ,aa,hJ,aa,az];have hg:Nat.gcd a' b'=Nat.gcd a b:=by rw[j4,k4]
   by_cases HY:a' > b'
   ·have hc:gE a' b' > 0:=by unfold gE;rw[aj (by omega),an HY];omega
    rw[an hc,fP (iy a') (iy b'),CQ (ik (by omega)) (ik (by omega)) (jH _) (jH _),BF,gA,gA,aj (by omega),aQ,aa];simp only[ba];rw[show ([(bK (a' - b')).av,AV.int .i64 0]:List AV)[0]?=some (bK (a' - b')).av from rfl,show ([(bK (a' - b')).av,AV.int .i64 0]:List AV)[1]?=some (.int .i64 0) from rfl,aa,aa];have lab:(aB (a' - b')).length < 2 ^ 39:=jr (kR (Nat.sub_le _ _)) la';rw[ih (b'+(a' - b')) (by omega) b' (a' - b') rfl j1 (.inl j3) lb' lab]
    have:Nat.gcd b' (a' - b')=Nat.gcd a b:=by
     rw[<- hg,Nat.gcd_sub_self_right (by omega),uE]
    rw[this]
   ·have hc:¬ gE a' b' > 0:=by unfold gE;split<;>first | omega | (rw[aj HY];omega)
    rw[aj hc,fP (iy b') (iy a'),CQ (ik (by omega)) (ik (by omega)) (jH _) (jH _),BF,gA,gA,aj (by omega),aQ,aa];simp only[ba];rw[show ([(bK (b' - a')).av,AV.int .i64 0]:List AV)[0]?=some (bK (b' - a')).av from rfl,show ([(bK (b' - a')).av,AV.int .i64 0]:List AV)[1]?=some (.int .i64 0) from rfl,aa,aa];have lab:(aB (b' - a')).length < 2 ^ 39:=jr (kR (Nat.sub_le _ _)) lb';rw[ih (a'+(b' - a')) (by omega) a' (b' - a') rfl k1 (.inl k3) la' lab]
    have:Nat.gcd a' (b' - a')=Nat.gcd a b:=by
     rw[<- hg,Nat.gcd_sub_self_right (by omega)]
    rw[this]
theorem R3 {x y:NV} (hx:NOk x) (hy:NOk y) (lx:(aB x.v).length < 2 ^ 38) (ly:(aB y.v).length < 2 ^ 38):AP ae 119 [x.av,y.av]=some (bK (Nat.gcd x.v y.v)).av:=by
 have e1:=q8 hx.fr;have e2:=q8 hy.fr;rw[show x.fr.v=x.v from rfl] at e1;rw[show y.fr.v=y.v from rfl] at e2;have s1:=R7 (ik (n:=x.v) (by omega));have s2:=R7 (ik (n:=y.v) (by omega));rw[gA] at s1 s2
 have hx1:∀ n,ba (s8 n) 1=some (.bool (decide (n < 18446744073709551616))):=by
  intro n;unfold s8;split<;>(rename_i h;simp[ba,h])
 have hx0:∀ n,∃ k:Nat,ba (s8 n) 0=some (.int .u64 k)/\(n < 18446744073709551616->k=n):=by
  intro n;unfold s8
  split
  ·exact ⟨n,rfl,fun _=>rfl⟩
  ·rename_i h;exact ⟨0,rfl,fun h'=>absurd h' h⟩
 obtain ⟨kx,AX,qlh⟩:=hx0 x.v;obtain ⟨ky,hky,qli⟩:=hx0 y.v
 have big:∀ {R:OM},R=((aK false (bK x.v).av).bind fun v9=>(ag .other .eql v9 (.int .i64 0)).bind fun v10=>aw v10 (some ((bK y.v).av,[])) (
   (aK false (bK y.v).av).bind fun v11=>(ag .other .eql v11 (.int .i64 0)).bind fun v12=>aw v12 (some ((bK x.v).av,[])) (
   (aD (AP ae) none [] 72 [(.int .u64 1)]).bind fun fW=>zL (bK x.v).av (bK y.v).av fW.1 fW.2 (B3 (aF ae.P f119.results.toList)))))->R=some ((bK (Nat.gcd x.v y.v)).av,[]):=by
  intro R hR;rw[hR,o0,aa,me,aa,az]
  by_cases h0:x.v=0
  ·rw[an (mS.2 h0),h0,Nat.gcd_zero_left]
  ·rw[aj (fun e=>h0 (mS.1 e)),o0,aa,me,aa,az]
   by_cases h1:y.v=0
   ·rw[an (mS.2 h1),h1,Nat.gcd_zero_right]
   ·have h70:=G6 (n:=1) (by omega);have l1:(aB 1).length < 2 ^ 39:=jr (oL (k:=1) (by omega)) (by omega);obtain ⟨a',b',t',k1,k2,k3,k4,k5,k6,k7,k8,k9⟩:=qgn (B3 (aF ae.P f119.results.toList)) [] x.v x.v y.v 1 rfl (by omega) (by omega) (by omega) (by rw[mq];omega) (by omega) (by omega) l1;have la':(aB a').length < 2 ^ 39:=jr (kR k4) (by omega);have lb':(aB b').length < 2 ^ 39:=jr (kR k5) (by omega);have lg:(aB (Nat.gcd a' b')).length < 2 ^ 39:=jr (kR (Nat.gcd_le_left _ k1)) la';rw[aj (fun e=>h1 (mS.1 e)),cw (gu _ _),show AV.int .u64 1=.int .u64 ((1:Nat):Int) from rfl,h70,aQ,aa,k9,qaz,qgo _ _ _ (a'+b') a' b' rfl k1 k6 la' lb',qaC,fP (iy _) (iy _),G9 (ik (by omega)) (ik (by omega)),gA,gA,k7,mq]
    rfl
 refine cW _ _ (iy _) (pK _) (m:=[]) ?_;rw[qfi,cw (cu x),e1,aQ,aa,cw (cu y),e2,aQ,aa,cw (iy _),s1,aQ,aa,AX,aa,hx1,aa,cw (iy _),s2,aQ,aa,hky,aa,hx1,aa,az]
 by_cases c1:x.v < 18446744073709551616
 ·rw[an c1,az]
  by_cases c2:y.v < 18446744073709551616
  ·have tJ:Nat.gcd x.v y.v < 18446744073709551616:=by
    by_cases h0:x.v=0
    ·rw[h0,Nat.gcd_zero_left];exact c2
    ·exact jr (Nat.gcd_le_left _ (oJ h0)) c1
   rw[an c2,qlh c1,qli c2,qgr _ _ y.v x.v y.v rfl c1 c2,qaO,cw (gu _ _),G6 tJ]
   rfl
  ·rw[aj c2];exact big rfl
 ·rw[aj c1];exact big rfl
end Go.Ab
namespace Go.Ab
def fH (neg:Bool) (n:Nat):Int:=if neg then -(n:Int) else n
def dh (neg:Bool) (n d:Nat):Rat:=mkRat (fH neg n) d
theorem BB (neg:Bool) (n:Nat):(fH neg n).natAbs=n:=by cases neg<;>simp[fH]
theorem zc (neg:Bool) (n:Nat):dh neg n 0=0:=by simp[dh,Rat.mkRat_zero]
theorem w6 (neg:Bool) (d:Nat):dh neg 0 d=0:=by
 have:fH neg 0=0:=by cases neg<;>rfl
 rw[dh,this,Rat.zero_mkRat]
theorem OE {neg:Bool} {n d:Nat} (hd:d≠0):(dh neg n d).num.natAbs=n / Nat.gcd n d:=by
 rw[dh,Rat.num_mkRat,aj hd,BB,uE]
 cases neg with
 | false=>rfl
 | true=>
  have Dz:((Nat.gcd n d:Nat):Int)∣(n:Int):=Int.natCast_dvd_natCast.2 (Nat.gcd_dvd_left _ _);show (-(n:Int) / ((Nat.gcd n d:Nat):Int)).natAbs=_;rw[Int.neg_ediv_of_dvd Dz,Int.natAbs_neg]
  rfl
theorem OF {neg:Bool} {n d:Nat} (hd:d≠0):(dh neg n d).den=d / Nat.gcd n d:=by
 rw[dh,Rat.den_mkRat,aj hd,BB,uE]
theorem X0 {neg:Bool} {n d:Nat} (hd:d≠0):decide ((dh neg n d).num < 0)=(neg && decide (n / Nat.gcd n d > 0)):=by
 have Dz:((Nat.gcd n d:Nat):Int)∣(n:Int):=Int.natCast_dvd_natCast.2 (Nat.gcd_dvd_left _ _)
 have e:(dh neg n d).num=fH neg (n / Nat.gcd n d):=by
  rw[dh,Rat.num_mkRat,aj hd,BB,uE]
  cases neg with
  | false=>rfl
  | true=>
   show -(n:Int) / ((Nat.gcd n d:Nat):Int)=_;rw[Int.neg_ediv_of_dvd Dz]
   rfl
 rw[e]
 cases neg with
 | false=>
  rw[lQ];exact dk (Int.not_lt.2 (rR _))
 | true=>
  simp only[fH,bq,il];exact jD.2 (by omega)
theorem XZ {neg:Bool} {n d:Nat} (hd:d≠0):dh neg n d=0↔n=0:=by
 rw[dh,Rat.mkRat_eq_zero hd];cases neg<;>simp[fH]
theorem Er (s t:Bool) (n d k e:Nat):dh s n d * dh t k e=dh (s != t) (n * k) (d * e):=by
 rw[dh,dh,dh,Rat.mkRat_mul_mkRat];congr 1;cases s<;>cases t<;>simp[fH,rQ,Int.neg_mul,Int.mul_neg]
theorem IX {s t:Bool} {n d k e:Nat} (hd:d≠0) (he:e≠0):dh s n d+dh t k e=mkRat (fH s (n * e)+fH t (k * d)) (d * e):=by
 rw[dh,dh,Rat.mkRat_add_mkRat _ _ hd he];congr 1;cases s<;>cases t<;>simp[fH,rQ,Int.neg_mul]
theorem YG {s:Bool} {x y:Nat}:fH s x+fH s y=fH s (x+y):=by cases s<;>simp[fH]<;>omega
theorem YD {s t:Bool} {x y:Nat} (h:s≠t) (hxy:¬ x < y):fH s x+fH t y=fH s (x - y):=by
 cases s<;>cases t<;>simp[fH] at h ⊢<;>omega
theorem YE {s t:Bool} {x y:Nat} (h:s≠t) (hxy:x < y):fH s x+fH t y=fH t (y - x):=by
 cases s<;>cases t<;>simp[fH] at h ⊢<;>omega
structure RV where
 neg:Bool
 num:NV
 den:NV
def RV.av (r:RV):AV:=.agg [.bool r.neg,r.num.av,r.den.av]
def RV.fr (r:RV):RV:=⟨r.neg,r.num.fr,r.den.fr⟩
def RV.q (r:RV):Rat:=dh r.neg r.num.v r.den.v
structure ROk (k:Nat) (r:RV):Prop where
 num:NOk r.num
 den:NOk r.den
 ln:r.num.ds.length<=k
 ld:r.den.ds.length<=k
theorem ROk.fr {k:Nat} {r:RV} (h:ROk k r):ROk k r.fr:=⟨h.num.fr,h.den.fr,h.ln,h.ld⟩
theorem ROk.mono {k k':Nat} {r:RV} (h:ROk k r) (hk:k<=k'):ROk k' r:=⟨h.num,h.den,fA h.ln hk,fA h.ld hk⟩
theorem RV.fr_q (r:RV):r.fr.q=r.q:=rfl
theorem iu (r:RV):Fz r.av r.fr.av:=by
 intro m;have e:bH m km r.av=(fD (bH m 8) [.bool r.neg,r.num.av,r.den.av]).map fun r=>(.agg r.1,r.2):=rfl;rw[e];simp[fD,Uj r.neg m 7,qv r.num m 7,qv r.den m 7,RV.fr,RV.av]
theorem lN (r:RV):iQ r.av=true:=by simp[RV.av,iQ,mf,NV.av]
structure Can (r:RV) (q:Rat):Prop where
 neg:r.neg=decide (q.num < 0)
 num:r.num.ds=aB q.num.natAbs
 den:r.den.ds=aB q.den
 numz:r.num.z=true->r.num.ds=[]
 denz:r.den.z=true->r.den.ds=[]
theorem Can.q {r:RV} {q:Rat} (h:Can r q):r.q=q:=by
 rw[RV.q,NV.v,NV.v,h.num,h.den,gj,gj,h.neg,dh]
 have e:fH (decide (q.num < 0)) q.num.natAbs=q.num:=by
  by_cases hq:q.num < 0
  ·simp[fH,hq];omega
  ·simp[fH,hq];omega
 rw[e];exact Rat.mkRat_self q
def Bd (k:Nat) (q:Rat):Prop:=(aB q.num.natAbs).length<=k/\(aB q.den).length<=k
theorem Can.ok {r:RV} {q:Rat} {k:Nat} (h:Can r q) (hb:Bd k q) (hk:k < 2 ^ 40):ROk k r:=by
 refine ⟨⟨by rw[h.num];exact gd _,by rw[h.num];exact jr hb.1 hk,h.numz⟩,⟨by rw[h.den];exact gd _,by rw[h.den];exact jr hb.2 hk,h.denz⟩,by rw[h.num];exact hb.1,by rw[h.den];exact hb.2⟩
theorem Can.den0 {r:RV} {q:Rat} (h:Can r q):r.den.v≠0:=by
 rw[NV.v,h.den,gj];exact q.den_nz
theorem pG {a b i j:Nat} (ha:(aB a).length<=i) (hb:(aB b).length<=j):(aB (a * b)).length<=i+j:=by
 refine oL ?_;have h1:=mO (gd a);have h2:=mO (gd b);rw[gj] at h1 h2;have h3:4294967296 ^ (aB a).length<=4294967296 ^ i:=pO (by omega) ha;have h4:4294967296 ^ (aB b).length<=4294967296 ^ j:=pO (by omega) hb;rw[qX];exact Nat.mul_lt_mul'' (by omega) (by omega)
theorem NS {a b i:Nat} (ha:(aB a).length<=i) (hb:(aB b).length<=i):(aB (a+b)).length<=i+1:=by
 refine oL ?_;have h1:=mO (gd a);have h2:=mO (gd b);rw[gj] at h1 h2;have h3:4294967296 ^ (aB a).length<=4294967296 ^ i:=pO (by omega) ha;have h4:4294967296 ^ (aB b).length<=4294967296 ^ i:=pO (by omega) hb;rw[jO];omega
theorem D9:(aB 1).length<=1:=oL (by omega)
theorem BY {neg:Bool} {n d k:Nat} (hn:(aB n).length<=k) (hd:(aB d).length<=k) (hk:1<=k):Bd k (dh neg n d):=by
 by_cases h0:d=0
 ·subst h0;rw[zc]
  refine ⟨?_,?_⟩
  ·show (aB 0).length<=k;rw[lh];exact mw _
  ·show (aB 1).length<=k;exact fA D9 hk
 ·refine ⟨?_,?_⟩
  ·rw[OE h0];exact fA (kR (Af _ _)) hn
  ·rw[OF h0];exact fA (kR (Af _ _)) hd
theorem Bd.mono {k k':Nat} {q:Rat} (h:Bd k q) (hk:k<=k'):Bd k' q:=⟨fA h.1 hk,fA h.2 hk⟩
theorem IZ (q:Rat):dh (decide (q.num < 0)) q.num.natAbs q.den=q:=by
 have e:fH (decide (q.num < 0)) q.num.natAbs=q.num:=by
  by_cases hq:q.num < 0
  ·simp[fH,hq];omega
  ·simp[fH,hq];omega
 rw[dh,e];exact Rat.mkRat_self q
theorem Z2 {p q:Rat} {k l:Nat} (hp:Bd k p) (hq:Bd l q) (hk:1<=k):Bd (k+l) (p * q):=by
 rw[<- IZ p,<- IZ q,Er];exact BY (pG hp.1 hq.1) (pG hp.2 hq.2) (by omega)
theorem qmO (x:Int):∃ s n,x=fH s n/\n=x.natAbs:=⟨decide (x < 0),x.natAbs,by
 by_cases hq:x < 0
 ·simp[fH,hq];omega
 ·simp[fH,hq];omega,rfl⟩
theorem JD {p q:Rat} {k l:Nat} (hp:Bd k p) (hq:Bd l q) (hk:1<=k):Bd (k+l+1) (p+q):=by
 have h1:=pG hp.1 hq.2;have h2:=pG hq.1 hp.2;rw[<- IZ p,<- IZ q,IX p.den_nz q.den_nz];obtain ⟨s,n,e1,e2⟩:=qmO (fH (decide (p.num < 0)) (p.num.natAbs * q.den)+fH (decide (q.num < 0)) (q.num.natAbs * p.den))
 have hle:n<=p.num.natAbs * q.den+q.num.natAbs * p.den:=by
  rw[e2];refine fA (Int.natAbs_add_le _ _) ?_;rw[BB,BB];exact aR _
 have iz:(aB (q.num.natAbs * p.den)).length<=k+l:=by omega
 have h3:=NS h1 iz;rw[e1,<- dh];exact BY (fA (kR hle) h3) (fA (pG hp.2 hq.2) (by omega)) (by omega)
theorem JF {k:Nat} (hk:1<=k):Bd k 0:=⟨by show (aB 0).length<=k;rw[lh];exact mw _,fA (by show (aB 1).length<=1;exact D9) hk⟩
theorem JE {k:Nat} (hk:1<=k):Bd k 1:=⟨fA (by show (aB 1).length<=1;exact D9) hk,fA (by show (aB 1).length<=1;exact D9) hk⟩
theorem ROk.bd {k:Nat} {r:RV} (h:ROk k r) (hk:1<=k):Bd k r.q:=BY (fA h.num.v_len h.ln) (fA h.den.v_len h.ld) hk
def kN (r:RV):Bool:=pT r.num.ds && (pT r.den.ds && (decide (r.den.v≠0) && (!(decide (r.num.v=0) && r.neg) && decide (Nat.gcd r.num.v r.den.v=1))))
theorem LC {r:RV} {q:Rat} (h:Can r q):kN r=true:=by
 have hd:=h.den0;have e1:r.num.v=q.num.natAbs:=by rw[NV.v,h.num,gj]
 have e2:r.den.v=q.den:=by rw[NV.v,h.den,gj]
 simp only[kN,pT,bT,nt,xA,Bool.and_eq_false_iff,decide_eq_false_iff_not]
 refine ⟨?_,?_,hd,?_,?_⟩
 ·rw[h.num,gj]
 ·rw[h.den,gj]
 ·by_cases h0:r.num.v=0
  ·right;rw[h.neg];have:q.num=0:=by omega
   rw[this];rfl
  ·exact .inl h0
 ·rw[e1,e2];exact q.reduced
end Go.Ab
namespace Go.Ab
def cR (r:RV):Option Ent:=some (.obj true [.bool r.neg,r.num.av,r.den.av])
def ij:NV:=⟨true,.full,[]⟩
def zR:RV:=⟨false,ij,ij⟩
theorem cX (m:af) (r:RV):eR none (some 3) m r.av=some (.ptr m.length 0,m++[cR r]):=rfl
theorem ez (m:af):aA none m (.obj true [.bool false,ij.av,ij.av])=(m.length,m++[cR zR]):=rfl
theorem cH (m:af):aA none m .resv=(m.length,m++[some .resv]):=rfl
theorem eC (m:af) (n:Nat):aA (some n) m (.obj true [.bool false,ij.av,ij.av])=(n,m.set n (cR zR)):=rfl
theorem ew (m:af) (n:Nat):aA (some n) m .resv=(n,m.set n (some .resv)):=rfl
theorem cL (n:Nat):aS 0 (.ptr n 0)=some (.ptr n 0):=rfl
theorem cM (n:Nat):aS 1 (.ptr n 0)=some (.ptr n 1):=rfl
theorem cJ (n:Nat):aS 2 (.ptr n 0)=some (.ptr n 2):=rfl
theorem eF (m:af):dG m 1=m++[some .resv]:=rfl
theorem eG (m:af):dG m 2=m++[some .resv,some .resv]:=rfl
theorem dO {M:af} {r:RV}:ai none (cR r::M) (.ptr 0 0)=some (.bool r.neg):=rfl
theorem dP {M:af} {r:RV}:ai none (cR r::M) (.ptr 0 1)=some (r.num.av):=rfl
theorem dN {M:af} {r:RV}:ai none (cR r::M) (.ptr 0 2)=some (r.den.av):=rfl
theorem dd {M:af} {r:RV}:ai (some 3) (cR r::M) (.ptr 0 0)=some r.av:=rfl
theorem dr {M:af} {r r':RV}:aN (some 3) (cR r::M) (.ptr 0 0) r'.av=some (cR r'::M):=rfl
theorem eH {M:af} {r:RV} {b:Bool}:aN none (cR r::M) (.ptr 0 0) (.bool b)=some (cR ⟨b,r.num,r.den⟩::M):=rfl
theorem dR {c0:Option Ent} {M:af} {r:RV}:ai none (c0::cR r::M) (.ptr 1 0)=some (.bool r.neg):=rfl
theorem dS {c0:Option Ent} {M:af} {r:RV}:ai none (c0::cR r::M) (.ptr 1 1)=some (r.num.av):=rfl
theorem dQ {c0:Option Ent} {M:af} {r:RV}:ai none (c0::cR r::M) (.ptr 1 2)=some (r.den.av):=rfl
theorem cS {c0:Option Ent} {M:af} {r:RV}:ai (some 3) (c0::cR r::M) (.ptr 1 0)=some r.av:=rfl
theorem cV {c0:Option Ent} {M:af} {r r':RV}:aN (some 3) (c0::cR r::M) (.ptr 1 0) r'.av=some (c0::cR r'::M):=rfl
theorem eI {c0:Option Ent} {M:af} {r:RV} {b:Bool}:aN none (c0::cR r::M) (.ptr 1 0) (.bool b)=some (c0::cR ⟨b,r.num,r.den⟩::M):=rfl
theorem dU {c0 c1:Option Ent} {M:af} {r:RV}:ai none (c0::c1::cR r::M) (.ptr 2 0)=some (.bool r.neg):=rfl
theorem dV {c0 c1:Option Ent} {M:af} {r:RV}:ai none (c0::c1::cR r::M) (.ptr 2 1)=some (r.num.av):=rfl
theorem dT {c0 c1:Option Ent} {M:af} {r:RV}:ai none (c0::c1::cR r::M) (.ptr 2 2)=some (r.den.av):=rfl
theorem dn {c0 c1:Option Ent} {M:af} {r:RV}:ai (some 3) (c0::c1::cR r::M) (.ptr 2 0)=some r.av:=rfl
theorem dw {c0 c1:Option Ent} {M:af} {r r':RV}:aN (some 3) (c0::c1::cR r::M) (.ptr 2 0) r'.av=some (c0::c1::cR r'::M):=rfl
theorem eJ {c0 c1:Option Ent} {M:af} {r:RV} {b:Bool}:aN none (c0::c1::cR r::M) (.ptr 2 0) (.bool b)=some (c0::c1::cR ⟨b,r.num,r.den⟩::M):=rfl
theorem dY {c0 c1 c2:Option Ent} {M:af} {r:RV}:ai none (c0::c1::c2::cR r::M) (.ptr 3 0)=some (.bool r.neg):=rfl
theorem dZ {c0 c1 c2:Option Ent} {M:af} {r:RV}:ai none (c0::c1::c2::cR r::M) (.ptr 3 1)=some (r.num.av):=rfl
theorem dX {c0 c1 c2:Option Ent} {M:af} {r:RV}:ai none (c0::c1::c2::cR r::M) (.ptr 3 2)=some (r.den.av):=rfl
theorem dW {c0 c1 c2:Option Ent} {M:af} {r:RV}:ai (some 3) (c0::c1::c2::cR r::M) (.ptr 3 0)=some r.av:=rfl
theorem eK {c0 c1 c2:Option Ent} {M:af} {r r':RV}:aN (some 3) (c0::c1::c2::cR r::M) (.ptr 3 0) r'.av=some (c0::c1::c2::cR r'::M):=rfl
theorem eL {c0 c1 c2:Option Ent} {M:af} {r:RV} {b:Bool}:aN none (c0::c1::c2::cR r::M) (.ptr 3 0) (.bool b)=some (c0::c1::c2::cR ⟨b,r.num,r.den⟩::M):=rfl
theorem eh {c0 c1 c2 c3:Option Ent} {M:af} {r:RV}:ai none (c0::c1::c2::c3::cR r::M) (.ptr 4 0)=some (.bool r.neg):=rfl
theorem eo {c0 c1 c2 c3:Option Ent} {M:af} {r:RV}:ai none (c0::c1::c2::c3::cR r::M) (.ptr 4 1)=some (r.num.av):=rfl
theorem ef {c0 c1 c2 c3:Option Ent} {M:af} {r:RV}:ai none (c0::c1::c2::c3::cR r::M) (.ptr 4 2)=some (r.den.av):=rfl
theorem ee {c0 c1 c2 c3:Option Ent} {M:af} {r:RV}:ai (some 3) (c0::c1::c2::c3::cR r::M) (.ptr 4 0)=some r.av:=rfl
theorem eM {c0 c1 c2 c3:Option Ent} {M:af} {r r':RV}:aN (some 3) (c0::c1::c2::c3::cR r::M) (.ptr 4 0) r'.av=some (c0::c1::c2::c3::cR r'::M):=rfl
theorem eN {c0 c1 c2 c3:Option Ent} {M:af} {r:RV} {b:Bool}:aN none (c0::c1::c2::c3::cR r::M) (.ptr 4 0) (.bool b)=some (c0::c1::c2::c3::cR ⟨b,r.num,r.den⟩::M):=rfl
theorem di (a:AV) (l:List AV):ba (.tup (a::l)) 0=some a:=rfl
theorem dj (a b:AV) (l:List AV):ba (.tup (a::b::l)) 1=some b:=rfl
theorem dE (a b c:AV) (l:List AV):ba (.tup (a::b::c::l)) 2=some c:=rfl
theorem dI:fR (.agg [.bool false,ij.av,ij.av]) []=some zR.av:=rfl
theorem dL (x:NV):fR (.agg [.bool false,ij.av,ij.av]) [(2,none,x.av)]=some (RV.av ⟨false,ij,x⟩):=rfl
theorem dK (x y:NV):fR (.agg [.bool false,ij.av,ij.av]) [(1,none,x.av),(2,none,y.av)]=some (RV.av ⟨false,x,y⟩):=rfl
theorem dJ (b:Bool) (x y:NV):fR (.agg [.bool false,ij.av,ij.av]) [(0,none,.bool b),(1,none,x.av),(2,none,y.av)]=some (RV.av ⟨b,x,y⟩):=rfl
theorem eD:au=ij.av:=rfl
theorem cY (b:Bool):jg .not (.bool b)=some (.bool (!b)):=rfl
theorem dD (a b:Bool):ag .bl .neq (.bool a) (.bool b)=some (.bool (a != b)):=rfl
theorem dH (a b:Bool):ag .bl .eql (.bool a) (.bool b)=some (.bool (a == b)):=rfl
section
variable {cp:Nat->List AV->Option AV} {d:Option Nat} {m:af} {g:Nat}
theorem eE (x:NV):aD cp d m g [x.av]=(cp g [x.fr.av]).map fun v=>(v,m):=cw (cu x)
theorem de (k:IntKind) (n:Int):aD cp d m g [.int k n]=(cp g [.int k n]).map fun v=>(v,m):=cw (gu k n)
theorem df (x y:NV):aD cp d m g [x.av,y.av]=(cp g [x.fr.av,y.fr.av]).map fun v=>(v,m):=fP (cu x) (cu y)
theorem dF (b:Bool) (x y:NV):aD cp d m g [.bool b,x.av,y.av]=(cp g [.bool b,x.fr.av,y.fr.av]).map fun v=>(v,m):=IS (px b) (cu x) (cu y)
theorem c9 (r:RV):aD cp d m g [r.av]=(cp g [r.fr.av]).map fun v=>(v,m):=cw (iu r)
theorem cU (r s:RV):aD cp d m g [r.av,s.av]=(cp g [r.fr.av,s.fr.av]).map fun v=>(v,m):=fP (iu r) (iu s)
theorem cT:aD cp d m g []=(cp g []).map fun v=>(v,m):=Ep
end
theorem Ug (m:af) (r:RV):bH m 8 r.av=some (r.fr.av,[]):=by
 have e:bH m 8 r.av=(fD (bH m 7) [.bool r.neg,r.num.av,r.den.av]).map fun r=>(.agg r.1,r.2):=rfl;rw[e];simp[fD,Uj r.neg m 6,qv r.num m 6,qv r.den m 6,RV.fr,RV.av]
theorem Dk (r:RV) {b b':AV} (hb:∀ m k,bH m (k+1) b=some (b',[])):Fz (.tup [r.av,b]) (.tup [r.fr.av,b']):=by
 intro m;show (fD (bH m 8) [r.av,b]).map _=_;simp[fD,Ug,hb m 7]
end Go.Ab
namespace Go.Ab
structure LV where
 sh:Sh
 z:Bool
 o:Own
 es:List RV
def LV.av (l:LV):AV:=.lst l.sh l.z l.o (l.es.map RV.av)
def LV.fr (l:LV):LV:=⟨l.sh,l.z,l.o.fr,l.es⟩
structure LOk (k:Nat) (l:LV):Prop where
 sh:l.sh=some 3\/l.es=[]
 z:l.z=true->l.es=[]
 fr:∀ r∈l.es,r.fr=r
 ok:∀ r∈l.es,ROk k r
structure MV where
 rows:Int
 cols:Int
 lv:LV
theorem LOk.fr' {k:Nat} {l:LV} (h:LOk k l):LOk k l.fr:=⟨h.sh,h.z,h.fr,h.ok⟩
theorem Mi (x:LV):Fz x.av x.fr.av:=fun m=>qu x.sh x.z x.o (x.es.map RV.av) m 8
theorem Iv (l:LV):aK false l.av=some (.int .i64 l.es.length):=by simp[LV.av,aK]
theorem Io {l:LV} {k k':Nat} {kk:IntKind} (h:LOk k' l) (hk:k < l.es.length):aG (some 3) l.av (.int kk k)=some (.vptr (l.es[k].av).cells):=by
 have hs:l.sh=some 3:=h.sh.resolve_right (fun e=>by rw[e] at hk;simp at hk);simp[LV.av,aG,hs,hk]
theorem Ix (m:af) (r:RV):ai (some 3) m (.vptr r.av.cells)=some r.av:=rfl
theorem qjv {r:RV} (h:r.fr=r):fh (some 3) [r.av]=some (.lst (some 3) false .full [r.av]):=by
 obtain ⟨n,⟨z1,o1,d1⟩,⟨z2,o2,d2⟩⟩:=r;simp only[RV.fr,NV.fr,RV.mk.injEq,NV.mk.injEq,true_and,and_true] at h;cases o1<;>cases o2<;>simp[Own.fr] at h<;>rfl
def Xb:LV:=⟨none,true,.full,[]⟩
theorem pJ {m:af} {n:Nat} {bx:Bool} {cs:List AV} (h:m[n]?=some (some (.obj bx cs))):m.obj? n=some (bx,cs):=by simp[af.obj?,af.get,h]
theorem Bz {m:af} {n:Nat} {x:RV} (h:m[n]?=some (cR x)):ai (some 3) m (.ptr n 0)=some x.av:=by
 simp[ai,pJ h,ki,RV.av]
theorem Yl {m:af} {n:Nat} {x:RV} (h:m[n]?=some (cR x)):ai none m (.ptr n 1)=some x.num.av:=by simp[ai,pJ h,ki]
theorem Ym {m:af} {n:Nat} {x:RV} (h:m[n]?=some (cR x)):ai none m (.ptr n 2)=some x.den.av:=by simp[ai,pJ h,ki]
theorem Yp {m:af} {n:Nat} {x y:RV} (h:m[n]?=some (cR x)):aN (some 3) m (.ptr n 0) y.av=some (m.set n (cR y)):=by
 simp only[aN,pJ h,aa]
 rfl
def Kp (m m':af):Prop:=m.length<=m'.length/\∀ (n:Nat) (bx:Bool) (cs:List AV),m[n]?=some (some (Ent.obj bx cs))->m'[n]?=some (some (Ent.obj bx cs))
theorem Kp.app (m e:af):Kp m (m++e):=⟨by simp,fun n bx cs h=>by
 have hn:n < m.length:=by
  apply qk;intro hc;rw[mQ (by omega)] at h;cases h
 rw[nl hn];exact h⟩
def Ld (m:af) (l:LV):Prop:=(l=Xb)\/(l.sh=some 3/\l.z=false/\l.es≠[]/\∃ nm,l.o=.tok nm 43/\m[nm]?=some (some (.tok l.es.length 3)))
theorem Ld.app {m:af} {l:LV} (h:Ld m l) (e:af):Ld (m++e) l:=by
 rcases h with h | ⟨h1,h2,h3,nm,h4,h5⟩
 ·exact .inl h
 ·refine .inr ⟨h1,h2,h3,nm,h4,?_⟩
  have hn:nm < m.length:=by
   apply qk;intro hc;rw[mQ (by omega)] at h5;cases h5
  rw[nl hn];exact h5
theorem Mm {m:af} {e:Option Ent}:(m++[e])[m.length]?=some e:=by simp
end Go.Ab
namespace Go.Ab
noncomputable section
open Go.Proofs.Tryz
theorem qff (a0 a1:AV) (m:af):AC ae 113 [a0,a1] m=(eR none (some 3) m a0).bind fun r1=>(eR none (some 3) r1.2 a1).bind fun r2=>(ai (some 3) r2.2 r1.1).bind fun v3=>(ai (some 3) r2.2 r2.1).bind fun v4=>(aD (AP ae) none r2.2 153 [v3,v4]).bind fun r5=>(ag .other .eql r5.1 (.int .i64 0)).bind fun v6=>some (v6,r5.2):=
(bh ae 113 [a0,a1] m (fn:=f113) (c:=aC f113) qhu rfl).trans (by kernel_rfl)
theorem CO (a0 a1:AV) (m:af):AC ae 71 [a0,a1] m=(eR none (some 3) m a0).bind fun r1=>(eR none (some 3) r1.2 a1).bind fun r2=>(ai (some 3) (aA none r2.2 (.obj true [(.bool false),au,au])).2 r1.1).bind fun v3=>(aD (AP ae) none (aA none r2.2 (.obj true [(.bool false),au,au])).2 129 [v3]).bind fun r4=>(ag .other .eql r4.1 (.int .i64 0)).bind fun v5=>aw v5 ((aS 0 r2.1).bind fun v6=>(ai none r4.2 v6).bind fun v7=>(aS 1 r2.1).bind fun v8=>(ai none r4.2 v8).bind fun v9=>(aS 2 r2.1).bind fun v10=>(ai none r4.2 v10).bind fun v11=>(aD (AP ae) none r4.2 126 [v7,v9,v11]).bind fun kT=>(aN (some 3) kT.2 (.ptr (aA none r2.2 .resv).1 0) kT.1).bind fun m13=>(ai (some 3) m13 (.ptr (aA none r2.2 .resv).1 0)).bind fun bj=>some (bj,m13)) ((ai (some 3) r4.2 r2.1).bind fun bn=>(aD (AP ae) none r4.2 129 [bn]).bind fun gV=>(ag .other .eql gV.1 (.int .i64 0)).bind fun bB=>aw bB ((aS 0 r1.1).bind fun fk=>(ai none gV.2 fk).bind fun eU=>(aS 1 r1.1).bind fun v20=>(ai none gV.2 v20).bind fun v21=>(aS 2 r1.1).bind fun v22=>(ai none gV.2 v22).bind fun v23=>(aD (AP ae) none gV.2 126 [eU,v21,v23]).bind fun nM=>(aN (some 3) nM.2 (.ptr (aA none r2.2 .resv).1 0) nM.1).bind fun m25=>(ai (some 3) m25 (.ptr (aA none r2.2 .resv).1 0)).bind fun v26=>some (v26,m25)) ((aS 1 r1.1).bind fun jK=>(ai none gV.2 jK).bind fun v28=>(aS 2 r2.1).bind fun j9=>(ai none gV.2 j9).bind fun v30=>(aD (AP ae) (some gV.2.length) gV.2 127 [v28,v30]).bind fun oG=>(aS 1 r2.1).bind fun mN=>(ai none oG.2 mN).bind fun oI=>(aS 2 r1.1).bind fun qN=>(ai none oG.2 qN).bind fun ml=>(aD (AP ae) (some gV.2.length) oG.2 127 [oI,ml]).bind fun ug=>(aS 2 r1.1).bind fun v37=>(ai none ug.2 v37).bind fun qO=>(aS 2 r2.1).bind fun rH=>(ai none ug.2 rH).bind fun v40=>(aD (AP ae) (some gV.2.length) ug.2 127 [qO,v40]).bind fun uh=>(aS 0 r1.1).bind fun EG=>(ai none uh.2 EG).bind fun zu=>(aS 0 r2.1).bind fun EH=>(ai none uh.2 EH).bind fun EI=>(ag .bl .eql zu EI).bind fun v46=>aw v46 ((aS 0 r1.1).bind fun EJ=>(ai none uh.2 EJ).bind fun Zp=>(aD (AP ae) (some uh.2.length) uh.2 130 [oG.1,ug.1]).bind fun w7=>(aD (AP ae) (some uh.2.length) w7.2 126 [Zp,w7.1,uh.1]).bind fun X4=>(aN (some 3) X4.2 (.ptr (aA none r2.2 .resv).1 0) X4.1).bind fun m51=>(ai (some 3) m51 (.ptr (aA none r2.2 .resv).1 0)).bind fun Pn=>some (Pn,m51)) ((aD (AP ae) none uh.2 131 [oG.1,ug.1]).bind fun zd=>(ag .other .lss zd.1 (.int .i64 0)).bind fun Po=>aw Po ((ai (some 3) zd.2 r2.1).bind fun EK=>(aN (some 3) zd.2 r1.1 EK).bind fun m56=>(aD (AP ae) none m56 132 [ug.1,oG.1]).bind fun I3=>(ba I3.1 0).bind fun Jt=>(ba I3.1 1).bind fun v59=>(aS 0 r1.1).bind fun EL=>(ai none I3.2 EL).bind fun Pr=>(aD (AP ae) none I3.2 126 [Pr,Jt,uh.1]).bind fun X5=>(aN (some 3) X5.2 (.ptr (aA none r2.2 .resv).1 0) X5.1).bind fun m63=>(ai (some 3) m63 (.ptr (aA none r2.2 .resv).1 0)).bind fun Pt=>some (Pt,m63)) ((aD (AP ae) none zd.2 132 [oG.1,ug.1]).bind fun I4=>(ba I4.1 0).bind fun Pv=>(ba I4.1 1).bind fun Zq=>(aS 0 r1.1).bind fun Pw=>(ai none I4.2 Pw).bind fun Px=>(aD (AP ae) none I4.2 126 [Px,Pv,uh.1]).bind fun X6=>(aN (some 3) X6.2 (.ptr (aA none r2.2 .resv).1 0) X6.1).bind fun m71=>(ai (some 3) m71 (.ptr (aA none r2.2 .resv).1 0)).bind fun v72=>some (v72,m71))))):=
(bh ae 71 [a0,a1] m (fn:=f71) (c:=aC f71) qiT rfl).trans (by kernel_rfl)
theorem qfg (m:af):AC ae 114 [] m=(aD (AP ae) none (aA none m (.obj true [(.bool false),au,au])).2 123 [(.int .u64 1)]).bind fun r1=>(fR (.agg [(.bool false),au,au]) [(2,none,r1.1)]).bind fun v2=>(aN (some 3) r1.2 (.ptr (aA none m .resv).1 0) v2).bind fun m3=>(ai (some 3) m3 (.ptr (aA none m .resv).1 0)).bind fun v4=>some (v4,m3):=
(bh ae 114 [] m (fn:=f114) (c:=aC f114) qhv rfl).trans (by kernel_rfl)
theorem T64 (m:af):AC ae 64 [] m=(aD (AP ae) none (aA none m (.obj true [(.bool false),au,au])).2 123 [(.int .u64 1)]).bind fun r1=>(aD (AP ae) none r1.2 123 [(.int .u64 1)]).bind fun r2=>(fR (.agg [(.bool false),au,au]) [(1,none,r1.1),(2,none,r2.1)]).bind fun v3=>(aN (some 3) r2.2 (.ptr (aA none m .resv).1 0) v3).bind fun m4=>(ai (some 3) m4 (.ptr (aA none m .resv).1 0)).bind fun v5=>some (v5,m4):=
(bh ae 64 [] m (fn:=f64) (c:=aC f64) qiM rfl).trans (by kernel_rfl)
theorem qfC (a0:AV) (m:af):AC ae 152 [a0] m=(eR none (some 3) m a0).bind fun r1=>(aS 1 r1.1).bind fun v2=>(ai none r1.2 v2).bind fun v3=>(aD (AP ae) none r1.2 181 [v3]).bind fun r4=>(jg .not r4.1).bind fun v5=>aw v5 (some ((.bool false),r4.2)) ((aS 2 r1.1).bind fun v6=>(ai none r4.2 v6).bind fun v7=>(aD (AP ae) none r4.2 181 [v7]).bind fun r8=>(jg .not r8.1).bind fun v9=>aw v9 (some ((.bool false),r8.2)) ((aS 2 r1.1).bind fun v10=>(ai none r8.2 v10).bind fun v11=>(aK false v11).bind fun v12=>(ag .other .eql v12 (.int .i64 0)).bind fun bp=>aw bp (some ((.bool false),r8.2)) ((aS 1 r1.1).bind fun bj=>(ai none r8.2 bj).bind fun bn=>(aK false bn).bind fun bO=>(ag .other .eql bO (.int .i64 0)).bind fun bB=>aw bB ((aS 0 r1.1).bind fun fk=>(ai none r8.2 fk).bind fun eU=>aw eU (some ((.bool false),r8.2)) ((aS 1 r1.1).bind fun v20=>(ai none r8.2 v20).bind fun v21=>(aS 2 r1.1).bind fun v22=>(ai none r8.2 v22).bind fun v23=>(aD (AP ae) none r8.2 183 [v21,v23]).bind fun nM=>(aD (AP ae) none nM.2 182 [nM.1]).bind fun kC=>(ba kC.1 0).bind fun v26=>(ba kC.1 1).bind fun jK=>aw jK ((ag .other .eql v26 (.int .u64 1)).bind fun v28=>some (v28,kC.2)) (some ((.bool false),kC.2)))) ((aS 1 r1.1).bind fun j9=>(ai none r8.2 j9).bind fun v30=>(aS 2 r1.1).bind fun v31=>(ai none r8.2 v31).bind fun mN=>(aD (AP ae) none r8.2 183 [v30,mN]).bind fun vE=>(aD (AP ae) none vE.2 182 [vE.1]).bind fun qd=>(ba qd.1 0).bind fun ml=>(ba qd.1 1).bind fun vI=>aw vI ((ag .other .eql ml (.int .u64 1)).bind fun v37=>some (v37,qd.2)) (some ((.bool false),qd.2)))))):=
(bh ae 152 [a0] m (fn:=f152) (c:=aC f152) qhY rfl).trans (by kernel_rfl)
theorem qfD (a0 a1:AV) (m:af):AC ae 153 [a0,a1] m=(eR none (some 3) m a0).bind fun r1=>(eR none (some 3) r1.2 a1).bind fun r2=>(ai (some 3) r2.2 r1.1).bind fun v3=>(aD (AP ae) (some r2.2.length) r2.2 129 [v3]).bind fun r4=>(ai (some 3) r4.2 r2.1).bind fun v5=>(aD (AP ae) (some r2.2.length) r4.2 129 [v5]).bind fun r6=>(ag .other .lss r4.1 r6.1).bind fun v7=>aw v7 (some ((.int .i64 (-1)),r6.2)) ((ag .other .gtr r4.1 r6.1).bind fun v8=>aw v8 (some ((.int .i64 1),r6.2)) ((aS 1 r1.1).bind fun v9=>(ai none r6.2 v9).bind fun v10=>(aS 2 r2.1).bind fun v11=>(ai none r6.2 v11).bind fun v12=>(aD (AP ae) (some r6.2.length) r6.2 127 [v10,v12]).bind fun fW=>(aS 1 r2.1).bind fun bj=>(ai none fW.2 bj).bind fun bn=>(aS 2 r1.1).bind fun bO=>(ai none fW.2 bO).bind fun bB=>(aD (AP ae) (some r6.2.length) fW.2 127 [bn,bB]).bind fun iJ=>(aD (AP ae) (some r6.2.length) iJ.2 131 [fW.1,iJ.1]).bind fun oZ=>(ag .other .mul r4.1 oZ.1).bind fun v20=>some (v20,oZ.2))):=
(bh ae 153 [a0,a1] m (fn:=f153) (c:=aC f153) qhZ rfl).trans (by kernel_rfl)
theorem T69 (a0 a1:AV) (m:af):AC ae 69 [a0,a1] m=(eR none (some 3) m a0).bind fun r1=>(eR none (some 3) r1.2 a1).bind fun r2=>(aS 0 r1.1).bind fun v3=>(ai none (aA none r2.2 (.obj true [(.bool false),au,au])).2 v3).bind fun v4=>(aS 0 r2.1).bind fun v5=>(ai none (aA none r2.2 (.obj true [(.bool false),au,au])).2 v5).bind fun v6=>(ag .bl .neq v4 v6).bind fun v7=>(aS 1 r1.1).bind fun v8=>(ai none (aA none r2.2 (.obj true [(.bool false),au,au])).2 v8).bind fun v9=>(aS 1 r2.1).bind fun v10=>(ai none (aA none r2.2 (.obj true [(.bool false),au,au])).2 v10).bind fun v11=>(aD (AP ae) (some (aA none r2.2 (.obj true [(.bool false),au,au])).2.length) (aA none r2.2 (.obj true [(.bool false),au,au])).2 127 [v9,v11]).bind fun kT=>(aS 2 r1.1).bind fun bp=>(ai none kT.2 bp).bind fun bj=>(aS 2 r2.1).bind fun bn=>(ai none kT.2 bn).bind fun bO=>(aD (AP ae) (some (aA none r2.2 (.obj true [(.bool false),au,au])).2.length) kT.2 127 [bj,bO]).bind fun vD=>(aD (AP ae) (some (aA none r2.2 (.obj true [(.bool false),au,au])).2.length) vD.2 126 [v7,kT.1,vD.1]).bind fun iJ=>(aN (some 3) iJ.2 (.ptr (aA none r2.2 .resv).1 0) iJ.1).bind fun m19=>(ai (some 3) m19 (.ptr (aA none r2.2 .resv).1 0)).bind fun v20=>some (v20,m19):=
(bh ae 69 [a0,a1] m (fn:=f69) (c:=aC f69) qiR rfl).trans (by kernel_rfl)
theorem qfo (a0:AV) (m:af):AC ae 129 [a0] m=(eR none (some 3) m a0).bind fun r1=>(aS 1 r1.1).bind fun v2=>(ai none r1.2 v2).bind fun v3=>(aD (AP ae) none r1.2 131 [v3,au]).bind fun r4=>(ag .other .eql r4.1 (.int .i64 0)).bind fun v5=>aw v5 (some ((.int .i64 0),r4.2)) ((aS 2 r1.1).bind fun v6=>(ai none r4.2 v6).bind fun v7=>(aD (AP ae) none r4.2 131 [v7,au]).bind fun r8=>(ag .other .eql r8.1 (.int .i64 0)).bind fun v9=>aw v9 (some ((.int .i64 0),r8.2)) ((aS 0 r1.1).bind fun v10=>(ai none r8.2 v10).bind fun v11=>aw v11 (some ((.int .i64 (-1)),r8.2)) (some ((.int .i64 1),r8.2)))):=
(bh ae 129 [a0] m (fn:=f129) (c:=aC f129) qhF rfl).trans (by kernel_rfl)
theorem RH (a0 a1 a2:AV) (m:af):AC ae 126 [a0,a1,a2] m=(aD (AP ae) none (aA none m (.obj true [(.bool false),au,au])).2 167 [a0,a1,a2]).bind fun r1=>(ba r1.1 0).bind fun v2=>(ba r1.1 1).bind fun v3=>(aN (some 3) (aA none r1.2 (.obj true [(.bool false),au,au])).2 (.ptr (aA none r1.2 .resv).1 0) v2).bind fun m4=>(ag .other .neq v3 (.int .i64 0)).bind fun v5=>aw v5 ((aD (AP ae) none m4 114 []).bind fun r6=>(aN (some 3) r6.2 (.ptr (aA none m .resv).1 0) r6.1).bind fun m7=>(ai (some 3) m7 (.ptr (aA none m .resv).1 0)).bind fun v8=>some (v8,m7)) ((ai (some 3) m4 (.ptr (aA none r1.2 .resv).1 0)).bind fun v9=>(aN (some 3) m4 (.ptr (aA none m .resv).1 0) v9).bind fun m10=>(ai (some 3) m10 (.ptr (aA none m .resv).1 0)).bind fun v11=>some (v11,m10)):=
(bh ae 126 [a0,a1,a2] m (fn:=f126) (c:=aC f126) qhC rfl).trans (by kernel_rfl)
theorem RM (a0 a1 a2:AV) (m:af):AC ae 167 [a0,a1,a2] m=(aD (AP ae) none (aA none m (.obj true [(.bool false),au,au])).2 183 [a1,a2]).bind fun r1=>(aD (AP ae) none r1.2 131 [a2,au]).bind fun r2=>(ag .other .eql r2.1 (.int .i64 0)).bind fun v3=>aw v3 ((fR (.agg [(.bool false),au,au]) []).bind fun v4=>(aN (some 3) r2.2 (.ptr (aA none m .resv).1 0) v4).bind fun m5=>(ai (some 3) m5 (.ptr (aA none m .resv).1 0)).bind fun v6=>some ((.tup [v6,(.int .i64 31)]),m5)) ((aD (AP ae) none r2.2 187 [a1,r1.1]).bind fun r7=>(ba r7.1 0).bind fun v8=>(ba r7.1 1).bind fun v9=>(ba r7.1 2).bind fun v10=>(aD (AP ae) none r7.2 187 [a2,r1.1]).bind fun jy=>(ba jy.1 0).bind fun v12=>(ba jy.1 1).bind fun bp=>(ba jy.1 2).bind fun bj=>aw a0 ((aK false v8).bind fun bn=>(ag .other .gtr bn (.int .i64 0)).bind fun bO=>(fR (.agg [(.bool false),au,au]) [(0,none,bO),(1,none,v8),(2,none,v12)]).bind fun bB=>(aN (some 3) jy.2 (.ptr (aA none m .resv).1 0) bB).bind fun m18=>(ai (some 3) m18 (.ptr (aA none m .resv).1 0)).bind fun eU=>some ((.tup [eU,(.int .i64 0)]),m18)) ((fR (.agg [(.bool false),au,au]) [(0,none,(.bool false)),(1,none,v8),(2,none,v12)]).bind fun v20=>(aN (some 3) jy.2 (.ptr (aA none m .resv).1 0) v20).bind fun m21=>(ai (some 3) m21 (.ptr (aA none m .resv).1 0)).bind fun v22=>some ((.tup [v22,(.int .i64 0)]),m21))):=
(bh ae 167 [a0,a1,a2] m (fn:=f167) (c:=aC f167) qh7 rfl).trans (by kernel_rfl)
theorem qfK (a0:AV) (m:af):AC ae 168 [a0] m=(ag .other .lss a0 (.int .i64 0)).bind fun v1=>aw v1 ((bm .u64 a0).bind fun v2=>(jg .neg v2).bind fun v3=>(aD (AP ae) none m 123 [v3]).bind fun r4=>some (r4.1,r4.2)) ((bm .u64 a0).bind fun v5=>(aD (AP ae) none m 123 [v5]).bind fun r6=>some (r6.1,r6.2)):=
(bh ae 168 [a0] m (fn:=f168) (c:=aC f168) qh8 rfl).trans (by kernel_rfl)
theorem qfn (a0 a1:AV) (m:af):AC ae 128 [a0,a1] m=(ag .other .lss a0 (.int .i64 0)).bind fun v1=>(ag .other .lss a1 (.int .i64 0)).bind fun v2=>(ag .bl .neq v1 v2).bind fun v3=>(aD (AP ae) none (aA none m (.obj true [(.bool false),au,au])).2 168 [a0]).bind fun r4=>(aD (AP ae) none r4.2 168 [a1]).bind fun r5=>(aD (AP ae) none r5.2 167 [v3,r4.1,r5.1]).bind fun r6=>(ba r6.1 0).bind fun v7=>(ba r6.1 1).bind fun v8=>(aN (some 3) r6.2 (.ptr (aA none m .resv).1 0) v7).bind fun m9=>(ai (some 3) m9 (.ptr (aA none m .resv).1 0)).bind fun v10=>some ((.tup [v10,v8]),m9):=
(bh ae 128 [a0,a1] m (fn:=f128) (c:=aC f128) qhE rfl).trans (by kernel_rfl)
end
end Go.Ab
namespace Go.Ab
open Go.Proofs.Tryz
theorem Of:NOk ij:=⟨yd,by simp[ij],by simp[ij]⟩
theorem Og:ij.v=0:=rfl
theorem qmw:(aB 1).length < 2 ^ 40:=jr D9 (by omega)
def y6:NV:=⟨false,.no,aB 1⟩
theorem R4:AP ae 123 [.int .u64 1]=some y6.av:=Li (n:=1) (by omega)
def nS:RV:=⟨false,ij,y6⟩
def jF:RV:=⟨false,y6,y6⟩
theorem wg:Can nS 0:=⟨rfl,lh.symm,rfl,fun _=>rfl,by simp[nS,y6]⟩
theorem LB:Can jF 1:=⟨rfl,rfl,rfl,by simp[jF,y6],by simp[jF,y6]⟩
theorem CP:AP ae 114 []=some nS.av:=by
 refine cW _ _ (iu nS) (lN _) (m:=[cR nS]) ?_;rw[qfg];simp only[aa,aQ,cX,ez,cH,eC,ew,cL,cM,cJ,eF,eG,dO,dP,dN,dd,dr,eH,dR,dS,dQ,cS,cV,eI,dU,dV,dT,dn,dw,eJ,dY,dZ,dX,dW,eK,eL,eh,eo,ef,ee,eM,eN,di,dj,dE,dI,dL,dK,dJ,eD,cY,dD,dH,aJ,aM,aI,bE,bQ,bP,bf,cD,dC,eO,eE,de,df,dF,c9,cU,cT,R4]
 rfl
theorem Lk:AP ae 64 []=some jF.av:=by
 refine cW _ _ (iu jF) (lN _) (m:=[cR jF]) ?_;rw[T64];simp only[aa,aQ,cX,ez,cH,eC,ew,cL,cM,cJ,eF,eG,dO,dP,dN,dd,dr,eH,dR,dS,dQ,cS,cV,eI,dU,dV,dT,dn,dw,eJ,dY,dZ,dX,dW,eK,eL,eh,eo,ef,ee,eM,eN,di,dj,dE,dI,dL,dK,dJ,eD,cY,dD,dH,aJ,aM,aI,bE,bQ,bP,bf,cD,dC,eO,eE,de,df,dF,c9,cU,cT,R4]
 rfl
theorem Au (n:Nat):(gE n 0=0)↔n=0:=by unfold gE;constructor<;>intro h<;>(repeat' split at *)<;>omega
theorem R9 {x y:NV} (neg:Bool) (hx:NOk x) (hy:NOk y):(y.v=0/\AP ae 167 [.bool neg,x.av,y.av]=some (.tup [zR.av,.int .i64 31])) \/
  (y.v≠0/\∃ r:RV,AP ae 167 [.bool neg,x.av,y.av]=some (.tup [r.av,.int .i64 0])/\Can r (dh neg x.v y.v)/\r.fr=r):=by
 have e1:=Se hx.fr hy.fr;have e2:=vW hy.fr Of;have hg:=Um hx.fr hy.fr;have hgf:(lr x.fr y.fr).fr=lr x.fr y.fr:=qkI _ _;have DE:(lr x.fr y.fr).v=Nat.gcd x.v y.v:=Un _ _;have e3:=Lj hx.fr hg;have e4:=Lj hy.fr hg;have nf:ij.fr=ij:=rfl;have yS:y.fr.v=y.v:=rfl;rw[Og,yS] at e2
 by_cases h0:y.v=0
 ·refine .inl ⟨h0,cW _ _ (Dk zR (jV _ _)) rfl (m:=[cR zR]) ?_⟩;rw[RM];simp only[aa,aQ,cX,ez,cH,eC,ew,cL,cM,cJ,eF,eG,dO,dP,dN,dd,dr,eH,dR,dS,dQ,cS,cV,eI,dU,dV,dT,dn,dw,eJ,dY,dZ,dX,dW,eK,eL,eh,eo,ef,ee,eM,eN,di,dj,dE,dI,dL,dK,dJ,eD,cY,dD,dH,aJ,aM,aI,bE,bQ,bP,bf,cD,dC,eO,eE,de,df,dF,c9,cU,cT,e1,nf,e2,ir,az];rw[an ((Au _).2 h0)]
 ·refine .inr ⟨h0,?_⟩
  have tK:Nat.gcd x.v y.v≠0:=by
   have:=Nat.gcd_pos_of_pos_right x.v (oJ h0);omega
  have DC:¬ (lr x.fr y.fr).v=0:=by rw[DE];exact tK
  unfold HB at e3 e4;rw[aj DC] at e3 e4;have hq:(ll x.fr (lr x.fr y.fr)).ds=aB (x.v / Nat.gcd x.v y.v):=by rw[Hy,DE];rfl
  have hd:(ll y.fr (lr x.fr y.fr)).ds=aB (y.v / Nat.gcd x.v y.v):=by rw[Hy,DE];rfl
  refine ⟨⟨neg && decide (x.v / Nat.gcd x.v y.v > 0),ll x.fr (lr x.fr y.fr),ll y.fr (lr x.fr y.fr)⟩,?_,⟨(X0 h0).symm,?_,?_,(TP hx.fr).nil,(TP hy.fr).nil⟩,?_⟩
  ·refine (cW _ _ (Dk ⟨neg && decide (x.v / Nat.gcd x.v y.v > 0),ll x.fr (lr x.fr y.fr),ll y.fr (lr x.fr y.fr)⟩ (jV .i64 0)) rfl (m:=[cR ⟨neg && decide (x.v / Nat.gcd x.v y.v > 0),ll x.fr (lr x.fr y.fr),ll y.fr (lr x.fr y.fr)⟩]) ?_).trans (by simp only[RV.fr,De]);rw[RM];simp only[aa,aQ,cX,ez,cH,eC,ew,cL,cM,cJ,eF,eG,dO,dP,dN,dd,dr,eH,dR,dS,dQ,cS,cV,eI,dU,dV,dT,dn,dw,eJ,dY,dZ,dX,dW,eK,eL,eh,eo,ef,ee,eM,eN,di,dj,dE,dI,dL,dK,dJ,eD,cY,dD,dH,aJ,aM,aI,bE,bQ,bP,bf,cD,dC,eO,eE,de,df,dF,c9,cU,cT,e1,nf,e2,ir,az];rw[aj (fun h=>h0 ((Au _).1 h))];simp only[aa,aQ,cX,ez,cH,eC,ew,cL,cM,cJ,eF,eG,dO,dP,dN,dd,dr,eH,dR,dS,dQ,cS,cV,eI,dU,dV,dT,dn,dw,eJ,dY,dZ,dX,dW,eK,eL,eh,eo,ef,ee,eM,eN,di,dj,dE,dI,dL,dK,dJ,eD,cY,dD,dH,aJ,aM,aI,bE,bQ,bP,bf,cD,dC,eO,eE,de,df,dF,c9,cU,cT,hgf,e3,e4,gZ,vx,hq]
   have hlen:decide ((aB (x.v / Nat.gcd x.v y.v)).length > 0)=decide (x.v / Nat.gcd x.v y.v > 0):=jD.2 (by
    constructor
    ·intro h;apply oJ;intro e;rw[e,lh] at h;simp at h
    ·intro h;have:(aB (x.v / Nat.gcd x.v y.v)).length≠0:=fun e=>by have:=mS.1 e;omega
     omega)
   cases neg with
   | false=>rfl
   | true=>
    rw[nE,hlen];simp only[aa,aQ,cX,ez,cH,eC,ew,cL,cM,cJ,eF,eG,dO,dP,dN,dd,dr,eH,dR,dS,dQ,cS,cV,eI,dU,dV,dT,dn,dw,eJ,dY,dZ,dX,dW,eK,eL,eh,eo,ef,ee,eM,eN,di,dj,dE,dI,dL,dK,dJ,eD,cY,dD,dH,aJ,aM,aI,bE,bQ,bP,bf,cD,dC,eO,eE,de,df,dF,c9,cU,cT,il]
  ·rw[OE h0];exact hq
  ·rw[OF h0];exact hd
  ·simp only[RV.fr,De]
theorem Jw:zR.fr=zR:=rfl
theorem zB:nS.fr=nS:=rfl
theorem Xo:jF.fr=jF:=rfl
theorem G1 {x y:NV} (neg:Bool) (hx:NOk x) (hy:NOk y):∃ r:RV,AP ae 126 [.bool neg,x.av,y.av]=some r.av/\Can r (dh neg x.v y.v)/\r.fr=r:=by
 rcases R9 neg hx.fr hy.fr with ⟨h0,h1⟩ | ⟨h0,r,h1,h2,h3⟩
 ·refine ⟨nS,cW _ _ (iu nS) (lN _) (m:=[cR nS,cR zR]) ?_,?_,zB⟩
  ·rw[RH];simp only[aa,aQ,cX,ez,cH,eC,ew,cL,cM,cJ,eF,eG,dO,dP,dN,dd,dr,eH,dR,dS,dQ,cS,cV,eI,dU,dV,dT,dn,dw,eJ,dY,dZ,dX,dW,eK,eL,eh,eo,ef,ee,eM,eN,di,dj,dE,dI,dL,dK,dJ,eD,cY,dD,dH,aJ,aM,aI,bE,bQ,bP,bf,cD,dC,eO,eE,de,df,dF,c9,cU,cT,h1,iY,az];rw[an (by decide)];simp only[aa,aQ,cX,ez,cH,eC,ew,cL,cM,cJ,eF,eG,dO,dP,dN,dd,dr,eH,dR,dS,dQ,cS,cV,eI,dU,dV,dT,dn,dw,eJ,dY,dZ,dX,dW,eK,eL,eh,eo,ef,ee,eM,eN,di,dj,dE,dI,dL,dK,dJ,eD,cY,dD,dH,aJ,aM,aI,bE,bQ,bP,bf,cD,dC,eO,eE,de,df,dF,c9,cU,cT,CP]
  ·have:y.v=0:=h0;rw[this,zc];exact wg
 ·refine ⟨r,(cW _ _ (iu r) (lN _) (m:=[cR r,cR r]) ?_).trans (by rw[h3]),h2,h3⟩;rw[RH];simp only[aa,aQ,cX,ez,cH,eC,ew,cL,cM,cJ,eF,eG,dO,dP,dN,dd,dr,eH,dR,dS,dQ,cS,cV,eI,dU,dV,dT,dn,dw,eJ,dY,dZ,dX,dW,eK,eL,eh,eo,ef,ee,eM,eN,di,dj,dE,dI,dL,dK,dJ,eD,cY,dD,dH,aJ,aM,aI,bE,bQ,bP,bf,cD,dC,eO,eE,de,df,dF,c9,cU,cT,h1,iY,az];rw[aj (by decide)]
def jf (r:RV):Int:=if r.num.v=0\/r.den.v=0 then 0 else if r.neg then -1 else 1
theorem G2 {r:RV} {k:Nat} (h:ROk k r):AP ae 129 [r.av]=some (.int .i64 (jf r)):=by
 have nf:ij.fr=ij:=rfl;have e1:=vW h.num.fr Of;have e2:=vW h.den.fr Of;have v1:r.num.fr.v=r.num.v:=rfl;have v2:r.den.fr.v=r.den.v:=rfl;rw[Og,v1] at e1;rw[Og,v2] at e2;refine cW _ _ (gu _ _) rfl (m:=[cR r]) ?_;rw[qfo];simp only[aa,aQ,cX,ez,cH,eC,ew,cL,cM,cJ,eF,eG,dO,dP,dN,dd,dr,eH,dR,dS,dQ,cS,cV,eI,dU,dV,dT,dn,dw,eJ,dY,dZ,dX,dW,eK,eL,eh,eo,ef,ee,eM,eN,di,dj,dE,dI,dL,dK,dJ,eD,cY,dD,dH,aJ,aM,aI,bE,bQ,bP,bf,cD,dC,eO,eE,de,df,dF,c9,cU,cT,nf,e1,ir,az];unfold jf
 by_cases h1:r.num.v=0
 ·rw[an ((Au _).2 h1),an (.inl h1)]
 ·rw[aj (fun h=>h1 ((Au _).1 h))];simp only[aa,aQ,cX,ez,cH,eC,ew,cL,cM,cJ,eF,eG,dO,dP,dN,dd,dr,eH,dR,dS,dQ,cS,cV,eI,dU,dV,dT,dn,dw,eJ,dY,dZ,dX,dW,eK,eL,eh,eo,ef,ee,eM,eN,di,dj,dE,dI,dL,dK,dJ,eD,cY,dD,dH,aJ,aM,aI,bE,bQ,bP,bf,cD,dC,eO,eE,de,df,dF,c9,cU,cT,e2,ir,az]
  by_cases h2:r.den.v=0
  ·rw[an ((Au _).2 h2),an (.inr h2)]
  ·rw[aj (fun h=>h2 ((Au _).1 h)),aj (fun h=>h.elim h1 h2)];cases hn:r.neg<;>rfl
end Go.Ab
namespace Go.Ab
noncomputable section
open Go.Proofs.Tryz
theorem T21 (a0 a1:AV) (m:af):AC ae 21 [a0,a1] m=(eR none (some 3) m a0).bind fun r1=>(eR none (some 3) r1.2 a1).bind fun r2=>(ai (some 3) r2.2 r1.1).bind fun v3=>(ai (some 3) r2.2 r2.1).bind fun v4=>(aD (AP ae) none r2.2 73 [v3,v4]).bind fun r5=>(ag .other .eql r5.1 (.int .i64 0)).bind fun v6=>some (v6,r5.2):=
(bh ae 21 [a0,a1] m (fn:=f21) (c:=aC f21) qir rfl).trans (by kernel_rfl)
theorem T73 (a0 a1:AV) (m:af):AC ae 73 [a0,a1] m=(eR none (some 3) m a0).bind fun r1=>(eR none (some 3) r1.2 a1).bind fun r2=>(ai (some 3) r2.2 r1.1).bind fun v3=>(ai (some 3) r2.2 r2.1).bind fun v4=>(aD (AP ae) none r2.2 134 [v3,v4]).bind fun r5=>(aD (AP ae) none r5.2 57 [r5.1]).bind fun r6=>some (r6.1,r6.2):=
(bh ae 73 [a0,a1] m (fn:=f73) (c:=aC f73) qiV rfl).trans (by kernel_rfl)
theorem T23 (m:af):AC ae 23 [] m=(aD (AP ae) none (aA none m (.obj true [(.bool false),au,au])).2 72 [(.int .u64 1)]).bind fun r1=>(aD (AP ae) none r1.2 72 [(.int .u64 1)]).bind fun r2=>(fR (.agg [(.bool false),au,au]) [(1,none,r1.1),(2,none,r2.1)]).bind fun v3=>(aN (some 3) r2.2 (.ptr (aA none m .resv).1 0) v3).bind fun m4=>(ai (some 3) m4 (.ptr (aA none m .resv).1 0)).bind fun v5=>some (v5,m4):=
(bh ae 23 [] m (fn:=f23) (c:=aC f23) qit rfl).trans (by kernel_rfl)
theorem T20 (m:af):AC ae 20 [] m=(aD (AP ae) none (aA none m (.obj true [(.bool false),au,au])).2 72 [(.int .u64 1)]).bind fun r1=>(fR (.agg [(.bool false),au,au]) [(2,none,r1.1)]).bind fun v2=>(aN (some 3) r1.2 (.ptr (aA none m .resv).1 0) v2).bind fun m3=>(ai (some 3) m3 (.ptr (aA none m .resv).1 0)).bind fun v4=>some (v4,m3):=
(bh ae 20 [] m (fn:=f20) (c:=aC f20) qim rfl).trans (by kernel_rfl)
theorem Lg (a0 a1:AV) (m:af):AC ae 22 [a0,a1] m=(eR none (some 3) m a0).bind fun r1=>(eR none (some 3) r1.2 a1).bind fun r2=>(ai (some 3) (aA none r2.2 (.obj true [(.bool false),au,au])).2 r1.1).bind fun v3=>(aD (AP ae) (some (aA none r2.2 (.obj true [(.bool false),au,au])).2.length) (aA none r2.2 (.obj true [(.bool false),au,au])).2 74 [v3]).bind fun r4=>(ai (some 3) r4.2 r2.1).bind fun v5=>(aD (AP ae) (some (aA none r2.2 (.obj true [(.bool false),au,au])).2.length) r4.2 74 [v5]).bind fun r6=>(aN (some 3) r6.2 r1.1 r4.1).bind fun m7=>(aN (some 3) m7 r2.1 r6.1).bind fun m8=>(aS 1 r1.1).bind fun v9=>(ai none m8 v9).bind fun v10=>(aS 2 r2.1).bind fun v11=>(ai none m8 v11).bind fun v12=>(aD (AP ae) (some m8.length) m8 75 [v10,v12]).bind fun fW=>(aS 1 r2.1).bind fun bj=>(ai none fW.2 bj).bind fun bn=>(aS 2 r1.1).bind fun bO=>(ai none fW.2 bO).bind fun bB=>(aD (AP ae) (some m8.length) fW.2 75 [bn,bB]).bind fun iJ=>(aS 2 r1.1).bind fun eU=>(ai none iJ.2 eU).bind fun v20=>(aS 2 r2.1).bind fun v21=>(ai none iJ.2 v21).bind fun v22=>(aD (AP ae) (some m8.length) iJ.2 75 [v20,v22]).bind fun mK=>(aS 0 r1.1).bind fun v24=>(ai none mK.2 v24).bind fun v25=>(aD (AP ae) (some mK.2.length) mK.2 76 [fW.1,iJ.1]).bind fun qG=>(aS 0 r1.1).bind fun jK=>(ai none qG.2 jK).bind fun v28=>(aS 0 r2.1).bind fun j9=>(ai none qG.2 j9).bind fun v30=>(ag .bl .neq v28 v30).bind fun v31=>aw v31 ((aD (AP ae) none qG.2 77 [fW.1,iJ.1]).bind fun uf=>(ag .other .geq uf.1 (.int .i64 0)).bind fun oI=>aw oI ((aD (AP ae) none uf.2 78 [fW.1,iJ.1]).bind fun qd=>(ba qd.1 0).bind fun ml=>(ba qd.1 1).bind fun vI=>(aD (AP ae) none qd.2 79 [v25,ml,mK.1]).bind fun qH=>(ba qH.1 0).bind fun qO=>(ba qH.1 1).bind fun rH=>(aN (some 3) (aA none qH.2 (.obj true [(.bool false),au,au])).2 (.ptr (aA none qH.2 .resv).1 0) qO).bind fun m40=>(ai (some 3) m40 (.ptr (aA none qH.2 .resv).1 0)).bind fun zq=>(aN (some 3) m40 (.ptr (aA none r2.2 .resv).1 0) zq).bind fun m42=>(ai (some 3) m42 (.ptr (aA none r2.2 .resv).1 0)).bind fun zu=>some (zu,m42)) ((aS 0 r2.1).bind fun EH=>(ai none uf.2 EH).bind fun EI=>(aD (AP ae) none uf.2 78 [iJ.1,fW.1]).bind fun OI=>(ba OI.1 0).bind fun EJ=>(ba OI.1 1).bind fun Zp=>(aD (AP ae) none OI.2 79 [EI,EJ,mK.1]).bind fun w7=>(ba w7.1 0).bind fun Pm=>(ba w7.1 1).bind fun v51=>(aN (some 3) (aA none w7.2 (.obj true [(.bool false),au,au])).2 (.ptr (aA none w7.2 .resv).1 0) Pm).bind fun m52=>(ai (some 3) m52 (.ptr (aA none w7.2 .resv).1 0)).bind fun v53=>(aN (some 3) m52 (.ptr (aA none r2.2 .resv).1 0) v53).bind fun m54=>(ai (some 3) m54 (.ptr (aA none r2.2 .resv).1 0)).bind fun EK=>some (EK,m54))) ((aD (AP ae) none qG.2 79 [v25,qG.1,mK.1]).bind fun Eu=>(ba Eu.1 0).bind fun Pp=>(ba Eu.1 1).bind fun Jt=>(aN (some 3) (aA none Eu.2 (.obj true [(.bool false),au,au])).2 (.ptr (aA none Eu.2 .resv).1 0) Pp).bind fun m59=>(ai (some 3) m59 (.ptr (aA none Eu.2 .resv).1 0)).bind fun EL=>(aN (some 3) m59 (.ptr (aA none r2.2 .resv).1 0) EL).bind fun m61=>(ai (some 3) m61 (.ptr (aA none r2.2 .resv).1 0)).bind fun Ps=>some (Ps,m61)):=
(bh ae 22 [a0,a1] m (fn:=f22) (c:=aC f22) qis rfl).trans (by kernel_rfl)
theorem T56 (a0:AV) (m:af):AC ae 56 [a0] m=(eR none (some 3) m a0).bind fun r1=>(aS 1 r1.1).bind fun v2=>(ai none r1.2 v2).bind fun v3=>(aD (AP ae) none r1.2 118 [v3]).bind fun r4=>(jg .not r4.1).bind fun v5=>aw v5 (some ((.bool false),r4.2)) ((aS 2 r1.1).bind fun v6=>(ai none r4.2 v6).bind fun v7=>(aD (AP ae) none r4.2 118 [v7]).bind fun r8=>(jg .not r8.1).bind fun v9=>aw v9 (some ((.bool false),r8.2)) ((aS 2 r1.1).bind fun v10=>(ai none r8.2 v10).bind fun v11=>(aK false v11).bind fun v12=>(ag .other .eql v12 (.int .i64 0)).bind fun bp=>aw bp (some ((.bool false),r8.2)) ((aS 1 r1.1).bind fun bj=>(ai none r8.2 bj).bind fun bn=>(aK false bn).bind fun bO=>(ag .other .eql bO (.int .i64 0)).bind fun bB=>aw bB ((aS 0 r1.1).bind fun fk=>(ai none r8.2 fk).bind fun eU=>(jg .not eU).bind fun v20=>aw v20 ((aS 2 r1.1).bind fun v21=>(ai none r8.2 v21).bind fun v22=>(aD (AP ae) (some r8.2.length) r8.2 72 [(.int .u64 1)]).bind fun mK=>(aD (AP ae) (some r8.2.length) mK.2 77 [v22,mK.1]).bind fun nM=>(ag .other .eql nM.1 (.int .i64 0)).bind fun v25=>some (v25,nM.2)) (some ((.bool false),r8.2))) ((aS 1 r1.1).bind fun v26=>(ai none r8.2 v26).bind fun jK=>(aS 2 r1.1).bind fun v28=>(ai none r8.2 v28).bind fun j9=>(aD (AP ae) none r8.2 119 [jK,j9]).bind fun X3=>(aD (AP ae) none X3.2 72 [(.int .u64 1)]).bind fun oG=>(aD (AP ae) none oG.2 77 [X3.1,oG.1]).bind fun uf=>(ag .other .eql uf.1 (.int .i64 0)).bind fun oI=>some (oI,uf.2))))):=
(bh ae 56 [a0] m (fn:=f56) (c:=aC f56) qiI rfl).trans (by kernel_rfl)
theorem T57 (a0:AV) (m:af):AC ae 57 [a0] m=(eR none (some 3) m a0).bind fun r1=>(ai (some 3) r1.2 r1.1).bind fun v2=>(aD (AP ae) none r1.2 74 [v2]).bind fun r3=>(aN (some 3) r3.2 r1.1 r3.1).bind fun m4=>(aS 1 r1.1).bind fun v5=>(ai none m4 v5).bind fun v6=>(aK false v6).bind fun v7=>(ag .other .eql v7 (.int .i64 0)).bind fun v8=>aw v8 (some ((.int .i64 0),m4)) ((aS 0 r1.1).bind fun v9=>(ai none m4 v9).bind fun v10=>aw v10 (some ((.int .i64 (-1)),m4)) (some ((.int .i64 1),m4))):=
(bh ae 57 [a0] m (fn:=f57) (c:=aC f57) qiJ rfl).trans (by kernel_rfl)
theorem qfu (a0 a1:AV) (m:af):AC ae 134 [a0,a1] m=(eR none (some 3) m a0).bind fun r1=>(eR none (some 3) r1.2 a1).bind fun r2=>(ai (some 3) (aA none r2.2 (.obj true [(.bool false),au,au])).2 r1.1).bind fun v3=>(ai (some 3) (aA none r2.2 (.obj true [(.bool false),au,au])).2 r2.1).bind fun v4=>(aD (AP ae) (some (aA none r2.2 (.obj true [(.bool false),au,au])).2.length) (aA none r2.2 (.obj true [(.bool false),au,au])).2 169 [v4]).bind fun r5=>(aD (AP ae) (some (aA none r2.2 (.obj true [(.bool false),au,au])).2.length) r5.2 22 [v3,r5.1]).bind fun r6=>(aN (some 3) r6.2 (.ptr (aA none r2.2 .resv).1 0) r6.1).bind fun m7=>(ai (some 3) m7 (.ptr (aA none r2.2 .resv).1 0)).bind fun v8=>some (v8,m7):=
(bh ae 134 [a0,a1] m (fn:=f134) (c:=aC f134) qhK rfl).trans (by kernel_rfl)
theorem RS (a0:AV) (m:af):AC ae 74 [a0] m=(eR none (some 3) m a0).bind fun r1=>(aS 0 r1.1).bind fun v2=>(ai none (aA none r1.2 (.obj true [(.bool false),au,au])).2 v2).bind fun v3=>(aS 1 r1.1).bind fun v4=>(ai none (aA none r1.2 (.obj true [(.bool false),au,au])).2 v4).bind fun v5=>(aS 2 r1.1).bind fun v6=>(ai none (aA none r1.2 (.obj true [(.bool false),au,au])).2 v6).bind fun v7=>(aD (AP ae) none (aA none r1.2 (.obj true [(.bool false),au,au])).2 79 [v3,v5,v7]).bind fun r8=>(ba r8.1 0).bind fun v9=>(ba r8.1 1).bind fun v10=>(aN (some 3) (aA none r8.2 (.obj true [(.bool false),au,au])).2 (.ptr (aA none r8.2 .resv).1 0) v9).bind fun m11=>(ag .other .neq v10 (.int .i64 0)).bind fun v12=>aw v12 ((aD (AP ae) none m11 20 []).bind fun fW=>(aN (some 3) fW.2 (.ptr (aA none r1.2 .resv).1 0) fW.1).bind fun m14=>(ai (some 3) m14 (.ptr (aA none r1.2 .resv).1 0)).bind fun bn=>some (bn,m14)) ((ai (some 3) m11 (.ptr (aA none r8.2 .resv).1 0)).bind fun bO=>(aN (some 3) m11 (.ptr (aA none r1.2 .resv).1 0) bO).bind fun m17=>(ai (some 3) m17 (.ptr (aA none r1.2 .resv).1 0)).bind fun fk=>some (fk,m17)):=
(bh ae 74 [a0] m (fn:=f74) (c:=aC f74) qiW rfl).trans (by kernel_rfl)
theorem RW (a0 a1 a2:AV) (m:af):AC ae 79 [a0,a1,a2] m=(aD (AP ae) none (aA none m (.obj true [(.bool false),au,au])).2 136 [a2]).bind fun r1=>(ag .other .eql r1.1 (.int .i64 0)).bind fun v2=>aw v2 ((fR (.agg [(.bool false),au,au]) []).bind fun v3=>(aN (some 3) r1.2 (.ptr (aA none m .resv).1 0) v3).bind fun m4=>(ai (some 3) m4 (.ptr (aA none m .resv).1 0)).bind fun v5=>some ((.tup [v5,(.int .i64 31)]),m4)) ((aD (AP ae) none r1.2 119 [a1,a2]).bind fun r6=>(aD (AP ae) none r6.2 137 [a1,r6.1]).bind fun r7=>(ba r7.1 0).bind fun v8=>(ba r7.1 1).bind fun v9=>(ba r7.1 2).bind fun v10=>(aD (AP ae) none r7.2 137 [a2,r6.1]).bind fun jy=>(ba jy.1 0).bind fun v12=>(ba jy.1 1).bind fun bp=>(ba jy.1 2).bind fun bj=>aw a0 ((aK false v8).bind fun bn=>(ag .other .gtr bn (.int .i64 0)).bind fun bO=>(fR (.agg [(.bool false),au,au]) [(0,none,bO),(1,none,v8),(2,none,v12)]).bind fun bB=>(aN (some 3) jy.2 (.ptr (aA none m .resv).1 0) bB).bind fun m18=>(ai (some 3) m18 (.ptr (aA none m .resv).1 0)).bind fun eU=>some ((.tup [eU,(.int .i64 0)]),m18)) ((fR (.agg [(.bool false),au,au]) [(0,none,(.bool false)),(1,none,v8),(2,none,v12)]).bind fun v20=>(aN (some 3) jy.2 (.ptr (aA none m .resv).1 0) v20).bind fun m21=>(ai (some 3) m21 (.ptr (aA none m .resv).1 0)).bind fun v22=>some ((.tup [v22,(.int .i64 0)]),m21))):=
(bh ae 79 [a0,a1,a2] m (fn:=f79) (c:=aC f79) qi1 rfl).trans (by kernel_rfl)
theorem RO (a0:AV) (m:af):AC ae 169 [a0] m=(eR none (some 3) m a0).bind fun r1=>(ai (some 3) (aA none r1.2 (.obj true [(.bool false),au,au])).2 r1.1).bind fun v2=>(aD (AP ae) none (aA none r1.2 (.obj true [(.bool false),au,au])).2 74 [v2]).bind fun r3=>(aN (some 3) r3.2 r1.1 r3.1).bind fun m4=>(aS 0 r1.1).bind fun v5=>(ai none m4 v5).bind fun v6=>(jg .not v6).bind fun v7=>aw v7 ((aS 1 r1.1).bind fun v8=>(ai none m4 v8).bind fun v9=>(aK false v9).bind fun v10=>(ag .other .gtr v10 (.int .i64 0)).bind fun v11=>(aS 0 r1.1).bind fun v12=>(aN none m4 v12 v11).bind fun m13=>(ai (some 3) m13 r1.1).bind fun bj=>(aN (some 3) m13 (.ptr (aA none r1.2 .resv).1 0) bj).bind fun m15=>(ai (some 3) m15 (.ptr (aA none r1.2 .resv).1 0)).bind fun bO=>some (bO,m15)) ((aS 0 r1.1).bind fun bB=>(aN none m4 bB (.bool false)).bind fun m18=>(ai (some 3) m18 r1.1).bind fun eU=>(aN (some 3) m18 (.ptr (aA none r1.2 .resv).1 0) eU).bind fun m20=>(ai (some 3) m20 (.ptr (aA none r1.2 .resv).1 0)).bind fun v21=>some (v21,m20)):=
(bh ae 169 [a0] m (fn:=f169) (c:=aC f169) qh9 rfl).trans (by kernel_rfl)
end
end Go.Ab
namespace Go.Ab
open Go.Proofs.Tryz
theorem Ho {x:NV} (h:pT x.ds=true):decide (x.ds.length=0)=decide (x.v=0):=by
 have:x.ds=aB x.v:=rD h;rw[this];exact jD.2 mS
theorem qf9 {r:RV} {k:Nat} (h:ROk k r):AP ae 152 [r.av]=some (.bool (kN r)):=by
 have e1:=Sd h.num.fr;have e2:=Sd h.den.fr;have e3:=Se h.num.fr h.den.fr;have hg:=Um h.num.fr h.den.fr;have e4:=qgd hg.fr;have v4:(lr r.num.fr r.den.fr).fr.v=Nat.gcd r.num.v r.den.v:=Un _ _;rw[v4] at e4;have d1:r.num.fr.ds=r.num.ds:=rfl;have d2:r.den.fr.ds=r.den.ds:=rfl;rw[d1] at e1;rw[d2] at e2;refine cW _ _ (px _) rfl (m:=[cR r]) ?_;have one:∀ n:Nat,ag .other .eql (.int .u64 n) (.int .u64 1)=some (.bool (decide (n=1))):=fun n=>vw
 have tail:∀ m:af,((some (s8 (Nat.gcd r.num.v r.den.v),m)).bind fun kC=>(ba kC.1 0).bind fun v26=>(ba kC.1 1).bind fun jK=>
   aw jK ((ag .other .eql v26 (.int .u64 1)).bind fun v28=>some (v28,kC.2)) (some ((.bool false),kC.2)))=some (.bool (decide (Nat.gcd r.num.v r.den.v=1)),m):=by
  intro m;unfold s8
  split
  ·simp only[Nat.reduceAdd,aa,aQ,cX,ez,cH,eC,ew,cL,cM,cJ,eF,eG,dO,dP,dN,dd,dr,eH,dR,dS,dQ,cS,cV,eI,dU,dV,dT,dn,dw,eJ,dY,dZ,dX,dW,eK,eL,eh,eo,ef,ee,eM,eN,di,dj,dE,dI,dL,dK,dJ,eD,cY,dD,dH,aJ,aM,aI,bE,bQ,bP,bf,cD,dC,eO,eE,de,df,dF,c9,cU,cT,nE,one]
  ·rename_i hb;simp only[Nat.reduceAdd,aa,aQ,cX,ez,cH,eC,ew,cL,cM,cJ,eF,eG,dO,dP,dN,dd,dr,eH,dR,dS,dQ,cS,cV,eI,dU,dV,dT,dn,dw,eJ,dY,dZ,dX,dW,eK,eL,eh,eo,ef,ee,eM,eN,di,dj,dE,dI,dL,dK,dJ,eD,cY,dD,dH,aJ,aM,aI,bE,bQ,bP,bf,cD,dC,eO,eE,de,df,dF,c9,cU,cT,ng];rw[dk (by omega:¬ Nat.gcd r.num.v r.den.v=1)]
 rw[qfC];simp only[Nat.reduceAdd,aa,aQ,cX,ez,cH,eC,ew,cL,cM,cJ,eF,eG,dO,dP,dN,dd,dr,eH,dR,dS,dQ,cS,cV,eI,dU,dV,dT,dn,dw,eJ,dY,dZ,dX,dW,eK,eL,eh,eo,ef,ee,eM,eN,di,dj,dE,dI,dL,dK,dJ,eD,cY,dD,dH,aJ,aM,aI,bE,bQ,bP,bf,cD,dC,eO,eE,de,df,dF,c9,cU,cT,e1];unfold kN
 cases h1:pT r.num.ds with
 | false=>rfl
 | true=>
  simp only[Nat.reduceAdd,aa,aQ,cX,ez,cH,eC,ew,cL,cM,cJ,eF,eG,dO,dP,dN,dd,dr,eH,dR,dS,dQ,cS,cV,eI,dU,dV,dT,dn,dw,eJ,dY,dZ,dX,dW,eK,eL,eh,eo,ef,ee,eM,eN,di,dj,dE,dI,dL,dK,dJ,eD,cY,dD,dH,aJ,aM,aI,bE,bQ,bP,bf,cD,dC,eO,eE,de,df,dF,c9,cU,cT,jN,ng,e2,il]
  cases h2:pT r.den.ds with
  | false=>rfl
  | true=>
   simp only[Nat.reduceAdd,aa,aQ,cX,ez,cH,eC,ew,cL,cM,cJ,eF,eG,dO,dP,dN,dd,dr,eH,dR,dS,dQ,cS,cV,eI,dU,dV,dT,dn,dw,eJ,dY,dZ,dX,dW,eK,eL,eh,eo,ef,ee,eM,eN,di,dj,dE,dI,dL,dK,dJ,eD,cY,dD,dH,aJ,aM,aI,bE,bQ,bP,bf,cD,dC,eO,eE,de,df,dF,c9,cU,cT,jN,ng,gZ,me,il,Ho h2];rw[az]
   by_cases h3:r.den.v=0
   ·rw[an h3];simp[h3]
   ·rw[aj h3];simp only[Nat.reduceAdd,aa,aQ,cX,ez,cH,eC,ew,cL,cM,cJ,eF,eG,dO,dP,dN,dd,dr,eH,dR,dS,dQ,cS,cV,eI,dU,dV,dT,dn,dw,eJ,dY,dZ,dX,dW,eK,eL,eh,eo,ef,ee,eM,eN,di,dj,dE,dI,dL,dK,dJ,eD,cY,dD,dH,aJ,aM,aI,bE,bQ,bP,bf,cD,dC,eO,eE,de,df,dF,c9,cU,cT,gZ,me,Ho h1];rw[az]
    by_cases h4:r.num.v=0
    ·rw[an h4]
     cases hn:r.neg with
     | true=>rw[nE];simp[h4]
     | false=>
      rw[ng];simp only[Nat.reduceAdd,aa,aQ,cX,ez,cH,eC,ew,cL,cM,cJ,eF,eG,dO,dP,dN,dd,dr,eH,dR,dS,dQ,cS,cV,eI,dU,dV,dT,dn,dw,eJ,dY,dZ,dX,dW,eK,eL,eh,eo,ef,ee,eM,eN,di,dj,dE,dI,dL,dK,dJ,eD,cY,dD,dH,aJ,aM,aI,bE,bQ,bP,bf,cD,dC,eO,eE,de,df,dF,c9,cU,cT,e3,e4];refine (tail _).trans ?_;simp[h3]
    ·rw[aj h4];simp only[Nat.reduceAdd,aa,aQ,cX,ez,cH,eC,ew,cL,cM,cJ,eF,eG,dO,dP,dN,dd,dr,eH,dR,dS,dQ,cS,cV,eI,dU,dV,dT,dn,dw,eJ,dY,dZ,dX,dW,eK,eL,eh,eo,ef,ee,eM,eN,di,dj,dE,dI,dL,dK,dJ,eD,cY,dD,dH,aJ,aM,aI,bE,bQ,bP,bf,cD,dC,eO,eE,de,df,dF,c9,cU,cT,e3,e4];refine (tail _).trans ?_;simp[h3,h4]
theorem G7:AP ae 72 [.int .u64 1]=some (bK 1).av:=G6 (n:=1) (by omega)
def uo:RV:=⟨false,ij,bK 1⟩
def sV:RV:=⟨false,bK 1,bK 1⟩
theorem Ew (n:Nat):(bK n).z=true->(bK n).ds=[]:=by
 intro h;unfold bK qI at h ⊢
 split at h
 ·split<;>first | rfl | (rename_i h1 h2;exact absurd h1 h2)
 ·cases h
theorem qjC:Can uo 0:=⟨rfl,lh.symm,j8 1,fun _=>rfl,Ew 1⟩
theorem Aq:Can sV 1:=⟨rfl,j8 1,j8 1,Ew 1,Ew 1⟩
theorem PC:uo.fr=uo:=by simp only[uo,RV.fr,jH];rfl
theorem IK:sV.fr=sV:=by simp only[sV,RV.fr,jH]
theorem V20:AP ae 20 []=some uo.av:=by
 refine (cW _ _ (iu uo) (lN _) (m:=[cR uo]) ?_).trans (by rw[PC]);rw[T20];simp only[Nat.reduceAdd,aa,aQ,cX,ez,cH,eC,ew,cL,cM,cJ,eF,eG,dO,dP,dN,dd,dr,eH,dR,dS,dQ,cS,cV,eI,dU,dV,dT,dn,dw,eJ,dY,dZ,dX,dW,eK,eL,eh,eo,ef,ee,eM,eN,di,dj,dE,dI,dL,dK,dJ,eD,cY,dD,dH,aJ,aM,aI,bE,bQ,bP,bf,cD,dC,eO,eE,de,df,dF,c9,cU,cT,G7]
 rfl
theorem Si:AP ae 23 []=some sV.av:=by
 refine (cW _ _ (iu sV) (lN _) (m:=[cR sV]) ?_).trans (by rw[IK]);rw[T23];simp only[Nat.reduceAdd,aa,aQ,cX,ez,cH,eC,ew,cL,cM,cJ,eF,eG,dO,dP,dN,dd,dr,eH,dR,dS,dQ,cS,cV,eI,dU,dV,dT,dn,dw,eJ,dY,dZ,dX,dW,eK,eL,eh,eo,ef,ee,eM,eN,di,dj,dE,dI,dL,dK,dJ,eD,cY,dD,dH,aJ,aM,aI,bE,bQ,bP,bf,cD,dC,eO,eE,de,df,dF,c9,cU,cT,G7]
 rfl
theorem TU (k:Nat):ag .other .eql (.int .i64 k) (.int .i64 0)=some (.bool (decide (k=0))):=me
theorem Sm {x y:NV} (neg:Bool) (hx:NOk x) (hy:NOk y) (lx:(aB x.v).length < 2 ^ 38) (ly:(aB y.v).length < 2 ^ 38):(y.v=0/\AP ae 79 [.bool neg,x.av,y.av]=some (.tup [zR.av,.int .i64 31])) \/
  (y.v≠0/\∃ r:RV,AP ae 79 [.bool neg,x.av,y.av]=some (.tup [r.av,.int .i64 0])/\Can r (dh neg x.v y.v)/\r.fr=r):=by
 obtain ⟨kb,e0,e0'⟩:=qf6 hy.fr;have e1:=R3 hx.fr hy.fr lx ly;have v1:x.fr.v=x.v:=rfl;have v2:y.fr.v=y.v:=rfl;rw[v1,v2] at e1;rw[v2] at e0'
 have lg:(aB (Nat.gcd x.v y.v)).length < 2 ^ 38:=by
  by_cases h0:x.v=0
  ·rw[h0,Nat.gcd_zero_left];exact ly
  ·exact jr (kR (Nat.gcd_le_left _ (oJ h0))) lx
 have hg:NOk (bK (Nat.gcd x.v y.v)):=ik (by omega);have e3:=R6 hx.fr hg (by rw[v1];omega) (by rw[gA];omega);have e4:=R6 hy.fr hg (by rw[v2];omega) (by rw[gA];omega)
 by_cases h0:y.v=0
 ·refine .inl ⟨h0,cW _ _ (Dk zR (jV _ _)) rfl (m:=[cR zR]) ?_⟩;rw[RW];simp only[Nat.reduceAdd,aa,aQ,cX,ez,cH,eC,ew,cL,cM,cJ,eF,eG,dO,dP,dN,dd,dr,eH,dR,dS,dQ,cS,cV,eI,dU,dV,dT,dn,dw,eJ,dY,dZ,dX,dW,eK,eL,eh,eo,ef,ee,eM,eN,di,dj,dE,dI,dL,dK,dJ,eD,cY,dD,dH,aJ,aM,aI,bE,bQ,bP,bf,cD,dC,eO,eE,de,df,dF,c9,cU,cT,e0,TU,az];rw[an (e0'.2 h0)]
 ·refine .inr ⟨h0,?_⟩
  have tK:Nat.gcd x.v y.v≠0:=by
   have:=Nat.gcd_pos_of_pos_right x.v (oJ h0);omega
  unfold LR at e3 e4;rw[gA,aj tK,v1] at e3;rw[gA,aj tK,v2] at e4
  refine ⟨⟨neg && decide (x.v / Nat.gcd x.v y.v > 0),bK (x.v / Nat.gcd x.v y.v),bK (y.v / Nat.gcd x.v y.v)⟩,?_,⟨(X0 h0).symm,?_,?_,Ew _,Ew _⟩,?_⟩
  ·refine (cW _ _ (Dk ⟨neg && decide (x.v / Nat.gcd x.v y.v > 0),bK (x.v / Nat.gcd x.v y.v),bK (y.v / Nat.gcd x.v y.v)⟩ (jV .i64 0)) rfl (m:=[cR ⟨neg && decide (x.v / Nat.gcd x.v y.v > 0),bK (x.v / Nat.gcd x.v y.v),bK (y.v / Nat.gcd x.v y.v)⟩]) ?_).trans (by simp only[RV.fr,jH]);rw[RW];simp only[Nat.reduceAdd,aa,aQ,cX,ez,cH,eC,ew,cL,cM,cJ,eF,eG,dO,dP,dN,dd,dr,eH,dR,dS,dQ,cS,cV,eI,dU,dV,dT,dn,dw,eJ,dY,dZ,dX,dW,eK,eL,eh,eo,ef,ee,eM,eN,di,dj,dE,dI,dL,dK,dJ,eD,cY,dD,dH,aJ,aM,aI,bE,bQ,bP,bf,cD,dC,eO,eE,de,df,dF,c9,cU,cT,e0,TU,az];rw[aj (fun h=>h0 (e0'.1 h))];simp only[Nat.reduceAdd,aa,aQ,cX,ez,cH,eC,ew,cL,cM,cJ,eF,eG,dO,dP,dN,dd,dr,eH,dR,dS,dQ,cS,cV,eI,dU,dV,dT,dn,dw,eJ,dY,dZ,dX,dW,eK,eL,eh,eo,ef,ee,eM,eN,di,dj,dE,dI,dL,dK,dJ,eD,cY,dD,dH,aJ,aM,aI,bE,bQ,bP,bf,cD,dC,eO,eE,de,df,dF,c9,cU,cT,e1,jH,e3,e4,o0,vx]
   have hlen:decide ((aB (x.v / Nat.gcd x.v y.v)).length > 0)=decide (x.v / Nat.gcd x.v y.v > 0):=jD.2 (by
    constructor
    ·intro h;apply oJ;intro e;rw[e,lh] at h;simp at h
    ·intro h;have:(aB (x.v / Nat.gcd x.v y.v)).length≠0:=fun e=>by have:=mS.1 e;omega
     omega)
   cases neg with
   | false=>rfl
   | true=>
    rw[nE,hlen];simp only[Nat.reduceAdd,aa,aQ,cX,ez,cH,eC,ew,cL,cM,cJ,eF,eG,dO,dP,dN,dd,dr,eH,dR,dS,dQ,cS,cV,eI,dU,dV,dT,dn,dw,eJ,dY,dZ,dX,dW,eK,eL,eh,eo,ef,ee,eM,eN,di,dj,dE,dI,dL,dK,dJ,eD,cY,dD,dH,aJ,aM,aI,bE,bQ,bP,bf,cD,dC,eO,eE,de,df,dF,c9,cU,cT,il]
  ·rw[OE h0];exact j8 _
  ·rw[OF h0];exact j8 _
  ·simp only[RV.fr,jH]
theorem G8 {r:RV} {k:Nat} (h:ROk k r) (hk:k < 2 ^ 38):∃ s:RV,AP ae 74 [r.av]=some s.av/\Can s r.q/\s.fr=s:=by
 have ln:=fA h.num.v_len h.ln;have ld:=fA h.den.v_len h.ld
 rcases Sm r.neg h.num.fr h.den.fr (by show (aB r.num.v).length < _;omega) (by show (aB r.den.v).length < _;omega) with ⟨h0,h1⟩ | ⟨h0,s,h1,h2,h3⟩
 ·refine ⟨uo,(cW _ _ (iu uo) (lN _) (m:=[cR r,cR uo,cR zR]) ?_).trans (by rw[PC]),?_,PC⟩
  ·rw[RS];simp only[Nat.reduceAdd,aa,aQ,cX,ez,cH,eC,ew,cL,cM,cJ,eF,eG,dO,dP,dN,dd,dr,eH,dR,dS,dQ,cS,cV,eI,dU,dV,dT,dn,dw,eJ,dY,dZ,dX,dW,eK,eL,eh,eo,ef,ee,eM,eN,di,dj,dE,dI,dL,dK,dJ,eD,cY,dD,dH,aJ,aM,aI,bE,bQ,bP,bf,cD,dC,eO,eE,de,df,dF,c9,cU,cT,h1,iY,az];rw[an (by decide)];simp only[Nat.reduceAdd,aa,aQ,cX,ez,cH,eC,ew,cL,cM,cJ,eF,eG,dO,dP,dN,dd,dr,eH,dR,dS,dQ,cS,cV,eI,dU,dV,dT,dn,dw,eJ,dY,dZ,dX,dW,eK,eL,eh,eo,ef,ee,eM,eN,di,dj,dE,dI,dL,dK,dJ,eD,cY,dD,dH,aJ,aM,aI,bE,bQ,bP,bf,cD,dC,eO,eE,de,df,dF,c9,cU,cT,V20]
  ·have:r.den.v=0:=h0;rw[RV.q,this,zc];exact qjC
 ·refine ⟨s,(cW _ _ (iu s) (lN _) (m:=[cR r,cR s,cR s]) ?_).trans (by rw[h3]),h2,h3⟩;rw[RS];simp only[Nat.reduceAdd,aa,aQ,cX,ez,cH,eC,ew,cL,cM,cJ,eF,eG,dO,dP,dN,dd,dr,eH,dR,dS,dQ,cS,cV,eI,dU,dV,dT,dn,dw,eJ,dY,dZ,dX,dW,eK,eL,eh,eo,ef,ee,eM,eN,di,dj,dE,dI,dL,dK,dJ,eD,cY,dD,dH,aJ,aM,aI,bE,bQ,bP,bf,cD,dC,eO,eE,de,df,dF,c9,cU,cT,h1,iY,az];rw[aj (by decide)]
end Go.Ab
namespace Go.Ab
open Go.Proofs.Tryz
def zi (q:Rat):Int:=if q=0 then 0 else if q.num < 0 then -1 else 1
theorem qot (q:Rat):zi q=0↔q=0:=by
 unfold zi
 constructor
 ·intro h
  split at h
  ·assumption
  ·split at h<;>omega
 ·intro h;rw[an h]
theorem Can.len0 {r:RV} {q:Rat} (h:Can r q):r.num.ds.length=0↔q=0:=by
 rw[h.num,mS,Int.natAbs_eq_zero,Rat.num_eq_zero]
theorem Sk {r:RV} {k:Nat} (h:ROk k r) (hk:k < 2 ^ 38):AP ae 57 [r.av]=some (.int .i64 (zi r.q)):=by
 obtain ⟨s,e1,e2,e3⟩:=G8 h.fr hk;rw[RV.fr_q] at e2;refine cW _ _ (gu _ _) rfl (m:=[cR s]) ?_;rw[T57];simp only[Nat.reduceAdd,aa,aQ,cX,ez,cH,eC,ew,cL,cM,cJ,eF,eG,dO,dP,dN,dd,dr,eH,dR,dS,dQ,cS,cV,eI,dU,dV,dT,dn,dw,eJ,dY,dZ,dX,dW,eK,eL,eh,eo,ef,ee,eM,eN,di,dj,dE,dI,dL,dK,dJ,eD,cY,dD,dH,aJ,aM,aI,bE,bQ,bP,bf,cD,dC,eO,eE,de,df,dF,c9,cU,cT,e1,gZ,me,az];unfold zi
 by_cases h0:r.q=0
 ·rw[an (e2.len0.2 h0),an h0]
 ·rw[aj (fun hh=>h0 (e2.len0.1 hh)),aj h0,e2.neg,az];split<;>rfl
theorem qgb {r:RV} {k:Nat} (h:ROk k r) (hk:k < 2 ^ 38):∃ s:RV,AP ae 169 [r.av]=some s.av/\Can s (-r.q)/\s.fr=s:=by
 obtain ⟨s,e1,e2,e3⟩:=G8 h.fr hk;rw[RV.fr_q] at e2
 have hlen:∀ b:Bool,decide (s.num.ds.length > 0)=decide (r.q≠0):=by
  intro b;refine jD.2 ?_;have:=e2.len0
  constructor
  ·intro h1 h2;have:=this.2 h2;omega
  ·intro h1;have:s.num.ds.length≠0:=fun e=>h1 (this.1 e);omega
 have mY:s.num.fr=s.num:=dc RV.num e3;have oU:s.den.fr=s.den:=dc RV.den e3
 have hc:∀ b:Bool,b=decide ((-r.q).num < 0)->Can ⟨b,s.num,s.den⟩ (-r.q):=by
  intro b hb
  refine ⟨hb,?_,?_,e2.numz,e2.denz⟩
  ·rw[Rat.neg_num,Int.natAbs_neg];exact e2.num
  ·rw[Rat.neg_den];exact e2.den
 cases hn:s.neg with
 | true=>
  have hq:r.q.num < 0:=by have:=e2.neg;rw[hn] at this;exact rD this.symm
  refine ⟨⟨false,s.num,s.den⟩,(cW _ _ (iu ⟨false,s.num,s.den⟩) (lN _) (m:=[cR ⟨false,s.num,s.den⟩,cR ⟨false,s.num,s.den⟩]) ?_).trans (by simp only[RV.fr,mY,oU]),hc false ?_,by simp only[RV.fr,mY,oU]⟩
  ·rw[RO];simp only[Nat.reduceAdd,aa,aQ,cX,ez,cH,eC,ew,cL,cM,cJ,eF,eG,dO,dP,dN,dd,dr,eH,dR,dS,dQ,cS,cV,eI,dU,dV,dT,dn,dw,eJ,dY,dZ,dX,dW,eK,eL,eh,eo,ef,ee,eM,eN,di,dj,dE,dI,dL,dK,dJ,eD,cY,dD,dH,aJ,aM,aI,bE,bQ,bP,bf,cD,dC,eO,eE,de,df,dF,c9,cU,cT,e1,hn,jN,ng]
  ·rw[Rat.neg_num];exact (dk (by omega)).symm
 | false=>
  have hq:¬ r.q.num < 0:=by have:=e2.neg;rw[hn] at this;exact of_decide_eq_false this.symm
  refine ⟨⟨decide (r.q≠0),s.num,s.den⟩,(cW _ _ (iu ⟨decide (r.q≠0),s.num,s.den⟩) (lN _) (m:=[cR ⟨decide (r.q≠0),s.num,s.den⟩,cR ⟨decide (r.q≠0),s.num,s.den⟩]) ?_).trans (by simp only[RV.fr,mY,oU]),hc _ ?_,by simp only[RV.fr,mY,oU]⟩
  ·rw[RO];simp only[Nat.reduceAdd,aa,aQ,cX,ez,cH,eC,ew,cL,cM,cJ,eF,eG,dO,dP,dN,dd,dr,eH,dR,dS,dQ,cS,cV,eI,dU,dV,dT,dn,dw,eJ,dY,dZ,dX,dW,eK,eL,eh,eo,ef,ee,eM,eN,di,dj,dE,dI,dL,dK,dJ,eD,cY,dD,dH,aJ,aM,aI,bE,bQ,bP,bf,cD,dC,eO,eE,de,df,dF,c9,cU,cT,e1,hn,nT,nE,gZ,vx,hlen true]
  ·rw[Rat.neg_num];refine jD.2 ?_;have h0:r.q=0↔r.q.num=0:=Rat.num_eq_zero.symm
   constructor
   ·intro h1;have:r.q.num≠0:=fun e=>h1 (h0.2 e);omega
   ·intro h1 h2;have:=h0.1 h2;omega
theorem Sg {a b:RV} {k:Nat} (ha:ROk k a) (hb:ROk k b) (hk1:1<=k) (hk:k < 2 ^ 36):∃ s:RV,AP ae 22 [a.av,b.av]=some s.av/\Can s (a.q+b.q)/\s.fr=s:=by
 obtain ⟨s,e1,e2,e3⟩:=G8 ha.fr (by omega);obtain ⟨t,f1,f2,f3⟩:=G8 hb.fr (by omega);rw[RV.fr_q] at e2 f2;have os:=e2.ok (ha.bd hk1) (by omega);have ot:=f2.ok (hb.bd hk1) (by omega);have mY:s.num.fr=s.num:=dc RV.num e3;have oU:s.den.fr=s.den:=dc RV.den e3;have yN:t.num.fr=t.num:=dc RV.num f3;have yO:t.den.fr=t.den:=dc RV.den f3;have lx:=pG (fA os.num.v_len os.ln) (fA ot.den.v_len ot.ld);have ly:=pG (fA ot.num.v_len ot.ln) (fA os.den.v_len os.ld);have ld:=pG (fA os.den.v_len os.ld) (fA ot.den.v_len ot.ld);have lxy:=NS lx ly;have g1:=G9 os.num ot.den;have g2:=G9 ot.num os.den;have g3:=G9 os.den ot.den;have ox:NOk (bK (s.num.v * t.den.v)):=ik (by omega);have oy:NOk (bK (t.num.v * s.den.v)):=ik (by omega);have od:NOk (bK (s.den.v * t.den.v)):=ik (by omega);have g4:=Sl ox oy (jH _) (jH _);have g5:=xU ox oy;have g6:=CQ ox oy (jH _) (jH _);have g7:=CQ oy ox (jH _) (jH _);rw[gA,gA] at g4 g5;unfold BF at g6 g7;rw[gA,gA] at g6 g7;have AK:s.den.v * t.den.v≠0:=Nat.mul_ne_zero e2.den0 f2.den0
 have nD:a.q+b.q=mkRat (fH s.neg (s.num.v * t.den.v)+fH t.neg (t.num.v * s.den.v)) (s.den.v * t.den.v):=by
  rw[<- e2.q,<- f2.q];exact IX e2.den0 f2.den0
 have fin:∀ (neg:Bool) (n:Nat),(aB n).length < 2 ^ 38->mkRat (fH s.neg (s.num.v * t.den.v)+fH t.neg (t.num.v * s.den.v)) (s.den.v * t.den.v)=dh neg n (s.den.v * t.den.v)->∃ r:RV,AP ae 79 [.bool neg,(bK n).av,(bK (s.den.v * t.den.v)).av]=some (.tup [r.av,.int .i64 0])/\Can r (a.q+b.q)/\r.fr=r:=by
  intro neg n hn he
  rcases Sm neg (ik (n:=n) (by omega)) od (by rw[gA];exact hn) (by rw[gA];omega) with ⟨h0,_⟩ | ⟨_,r,h1,h2,h3⟩
  ·rw[gA] at h0;exact absurd h0 AK
  ·rw[gA,gA,<- he,<- nD] at h2;exact ⟨r,h1,h2,h3⟩
 by_cases hn:s.neg=t.neg
 ·obtain ⟨r,h1,h2,h3⟩:=fin s.neg (s.num.v * t.den.v+t.num.v * s.den.v) (by omega) (by rw[<- hn,YG];rfl);refine ⟨r,(cW _ _ (iu r) (lN _) (m:=[cR s,cR t,cR r,cR r]) ?_).trans (by rw[h3]),h2,h3⟩;rw[Lg];simp only[Nat.reduceAdd,aa,aQ,cX,ez,cH,eC,ew,cL,cM,cJ,eF,eG,dO,dP,dN,dd,dr,eH,dR,dS,dQ,cS,cV,eI,dU,dV,dT,dn,dw,eJ,dY,dZ,dX,dW,eK,eL,eh,eo,ef,ee,eM,eN,di,dj,dE,dI,dL,dK,dJ,eD,cY,dD,dH,aJ,aM,aI,bE,bQ,bP,bf,cD,dC,eO,eE,de,df,dF,c9,cU,cT,e1,f1,mY,oU,yN,yO,g1,g2,g3,jH,g4,hn,bne_self_eq_false,ng];rw[hn] at h1;simp only[Nat.reduceAdd,aa,aQ,cX,ez,cH,eC,ew,cL,cM,cJ,eF,eG,dO,dP,dN,dd,dr,eH,dR,dS,dQ,cS,cV,eI,dU,dV,dT,dn,dw,eJ,dY,dZ,dX,dW,eK,eL,eh,eo,ef,ee,eM,eN,di,dj,dE,dI,dL,dK,dJ,eD,cY,dD,dH,aJ,aM,aI,bE,bQ,bP,bf,cD,dC,eO,eE,de,df,dF,c9,cU,cT,h1]
 ·have hne:(s.neg != t.neg)=true:=by simpa using hn
  by_cases hlt:s.num.v * t.den.v < t.num.v * s.den.v
  ·obtain ⟨r,h1,h2,h3⟩:=fin t.neg (t.num.v * s.den.v - s.num.v * t.den.v) (jr (kR (Nat.sub_le _ _)) (by omega)) (by rw[YE hn hlt];rfl);refine ⟨r,(cW _ _ (iu r) (lN _) (m:=[cR s,cR t,cR r,cR r]) ?_).trans (by rw[h3]),h2,h3⟩;have hc:¬ gE (s.num.v * t.den.v) (t.num.v * s.den.v)≥0:=by unfold gE;rw[an hlt];omega
   rw[aj (by omega)] at g7;rw[Lg];simp only[Nat.reduceAdd,aa,aQ,cX,ez,cH,eC,ew,cL,cM,cJ,eF,eG,dO,dP,dN,dd,dr,eH,dR,dS,dQ,cS,cV,eI,dU,dV,dT,dn,dw,eJ,dY,dZ,dX,dW,eK,eL,eh,eo,ef,ee,eM,eN,di,dj,dE,dI,dL,dK,dJ,eD,cY,dD,dH,aJ,aM,aI,bE,bQ,bP,bf,cD,dC,eO,eE,de,df,dF,c9,cU,cT,e1,f1,mY,oU,yN,yO,g1,g2,g3,jH,g4,hne,nE,g5,kF,az];rw[aj hc];simp only[Nat.reduceAdd,aa,aQ,cX,ez,cH,eC,ew,cL,cM,cJ,eF,eG,dO,dP,dN,dd,dr,eH,dR,dS,dQ,cS,cV,eI,dU,dV,dT,dn,dw,eJ,dY,dZ,dX,dW,eK,eL,eh,eo,ef,ee,eM,eN,di,dj,dE,dI,dL,dK,dJ,eD,cY,dD,dH,aJ,aM,aI,bE,bQ,bP,bf,cD,dC,eO,eE,de,df,dF,c9,cU,cT,jH,g7,h1]
  ·obtain ⟨r,h1,h2,h3⟩:=fin s.neg (s.num.v * t.den.v - t.num.v * s.den.v) (jr (kR (Nat.sub_le _ _)) (by omega)) (by rw[YD hn hlt];rfl);refine ⟨r,(cW _ _ (iu r) (lN _) (m:=[cR s,cR t,cR r,cR r]) ?_).trans (by rw[h3]),h2,h3⟩;have hc:gE (s.num.v * t.den.v) (t.num.v * s.den.v)≥0:=by unfold gE;rw[aj hlt];split<;>omega
   rw[aj hlt] at g6;rw[Lg];simp only[Nat.reduceAdd,aa,aQ,cX,ez,cH,eC,ew,cL,cM,cJ,eF,eG,dO,dP,dN,dd,dr,eH,dR,dS,dQ,cS,cV,eI,dU,dV,dT,dn,dw,eJ,dY,dZ,dX,dW,eK,eL,eh,eo,ef,ee,eM,eN,di,dj,dE,dI,dL,dK,dJ,eD,cY,dD,dH,aJ,aM,aI,bE,bQ,bP,bf,cD,dC,eO,eE,de,df,dF,c9,cU,cT,e1,f1,mY,oU,yN,yO,g1,g2,g3,jH,g4,hne,nE,g5,kF,az];rw[an hc];simp only[Nat.reduceAdd,aa,aQ,cX,ez,cH,eC,ew,cL,cM,cJ,eF,eG,dO,dP,dN,dd,dr,eH,dR,dS,dQ,cS,cV,eI,dU,dV,dT,dn,dw,eJ,dY,dZ,dX,dW,eK,eL,eh,eo,ef,ee,eM,eN,di,dj,dE,dI,dL,dK,dJ,eD,cY,dD,dH,aJ,aM,aI,bE,bQ,bP,bf,cD,dC,eO,eE,de,df,dF,c9,cU,cT,jH,g6,h1]
theorem qf5 {a b:RV} {k:Nat} (ha:ROk k a) (hb:ROk k b) (hk1:1<=k) (hk:k < 2 ^ 36):∃ s:RV,AP ae 134 [a.av,b.av]=some s.av/\Can s (a.q - b.q)/\s.fr=s:=by
 obtain ⟨t,f1,f2,f3⟩:=qgb hb.fr (by omega);rw[RV.fr_q] at f2
 have bt:Bd k (-b.q):=by
  have:=hb.bd hk1
  refine ⟨?_,?_⟩
  ·rw[Rat.neg_num,Int.natAbs_neg];exact this.1
  ·rw[Rat.neg_den];exact this.2
 have ot:=f2.ok bt (by omega);obtain ⟨s,e1,e2,e3⟩:=Sg ha.fr ot hk1 hk;rw[f2.q,RV.fr_q,<- Rat.sub_eq_add_neg] at e2;refine ⟨s,(cW _ _ (iu s) (lN _) (m:=[cR a,cR b,cR s]) ?_).trans (by rw[e3]),e2,e3⟩;rw[qfu];simp only[Nat.reduceAdd,aa,aQ,cX,ez,cH,eC,ew,cL,cM,cJ,eF,eG,dO,dP,dN,dd,dr,eH,dR,dS,dQ,cS,cV,eI,dU,dV,dT,dn,dw,eJ,dY,dZ,dX,dW,eK,eL,eh,eo,ef,ee,eM,eN,di,dj,dE,dI,dL,dK,dJ,eD,cY,dD,dH,aJ,aM,aI,bE,bQ,bP,bf,cD,dC,eO,eE,de,df,dF,c9,cU,cT,f1,f3,e1]
theorem V73 {a b:RV} {k:Nat} (ha:ROk k a) (hb:ROk k b) (hk1:1<=k) (hk:k < 2 ^ 36):AP ae 73 [a.av,b.av]=some (.int .i64 (zi (a.q - b.q))):=by
 obtain ⟨s,e1,e2,e3⟩:=qf5 ha.fr hb.fr hk1 hk;rw[RV.fr_q,RV.fr_q] at e2
 have bs:=JD (ha.bd hk1) (q:=-b.q) (l:=k) (by
  have:=hb.bd hk1
  refine ⟨?_,?_⟩
  ·rw[Rat.neg_num,Int.natAbs_neg];exact this.1
  ·rw[Rat.neg_den];exact this.2) hk1
 rw[<- Rat.sub_eq_add_neg] at bs;have os:=e2.ok bs (by omega);have e4:=Sk os (by omega);rw[e2.q] at e4;refine cW _ _ (gu _ _) rfl (m:=[cR a,cR b]) ?_;rw[T73];simp only[Nat.reduceAdd,aa,aQ,cX,ez,cH,eC,ew,cL,cM,cJ,eF,eG,dO,dP,dN,dd,dr,eH,dR,dS,dQ,cS,cV,eI,dU,dV,dT,dn,dw,eJ,dY,dZ,dX,dW,eK,eL,eh,eo,ef,ee,eM,eN,di,dj,dE,dI,dL,dK,dJ,eD,cY,dD,dH,aJ,aM,aI,bE,bQ,bP,bf,cD,dC,eO,eE,de,df,dF,c9,cU,cT,e1,e3,e4]
theorem V21 {a b:RV} {k:Nat} (ha:ROk k a) (hb:ROk k b) (hk1:1<=k) (hk:k < 2 ^ 36):AP ae 21 [a.av,b.av]=some (.bool (decide (a.q=b.q))):=by
 have e1:=V73 ha.fr hb.fr hk1 hk;rw[RV.fr_q,RV.fr_q] at e1;refine cW _ _ (px _) rfl (m:=[cR a,cR b]) ?_;rw[T21];simp only[Nat.reduceAdd,aa,aQ,cX,ez,cH,eC,ew,cL,cM,cJ,eF,eG,dO,dP,dN,dd,dr,eH,dR,dS,dQ,cS,cV,eI,dU,dV,dT,dn,dw,eJ,dY,dZ,dX,dW,eK,eL,eh,eo,ef,ee,eM,eN,di,dj,dE,dI,dL,dK,dJ,eD,cY,dD,dH,aJ,aM,aI,bE,bQ,bP,bf,cD,dC,eO,eE,de,df,dF,c9,cU,cT,e1,ir];congr 3;refine jD.2 ?_;rw[qot]
 constructor
 ·intro h;have:=Rat.sub_add_cancel (a:=a.q) (b:=b.q);rw[h,Rat.zero_add] at this;exact this.symm
 ·intro h;rw[h,Rat.sub_self]
end Go.Ab
namespace Go.Ab
open Go.Proofs.Tryz
theorem V56 {r:RV} {k:Nat} (h:ROk k r) (hk:k < 2 ^ 38):AP ae 56 [r.av]=some (.bool (kN r)):=by
 have ln:=fA h.num.v_len h.ln;have ld:=fA h.den.v_len h.ld;have e1:=R0 h.num.fr;have e2:=R0 h.den.fr;have e3:=R3 h.num.fr h.den.fr (by show (aB r.num.v).length < _;omega) (by show (aB r.den.v).length < _;omega);have v1:r.num.fr.v=r.num.v:=rfl;have v2:r.den.fr.v=r.den.v:=rfl;rw[v1,v2] at e3;have lg:(aB (Nat.gcd r.num.v r.den.v)).length < 2 ^ 40:=TM (by omega) (by omega);have o1:NOk (bK 1):=ik qmw;have e5:=xU (ik lg) o1;have e6:=xU h.den.fr o1;rw[gA,gA] at e5;rw[gA,v2] at e6;have d1:r.num.fr.ds=r.num.ds:=rfl;have d2:r.den.fr.ds=r.den.ds:=rfl;rw[d1] at e1;rw[d2] at e2
 have cm:∀ n:Nat,(ag .other .eql (.int .i64 (gE n 1)) (.int .i64 0))=some (.bool (decide (n=1))):=by
  intro n;rw[ir];congr 2;refine jD.2 ?_;unfold gE;constructor<;>intro h<;>(repeat' split at *)<;>omega
 refine cW _ _ (px _) rfl (m:=[cR r]) ?_;rw[T56];simp only[Nat.reduceAdd,aa,aQ,cX,ez,cH,eC,ew,cL,cM,cJ,eF,eG,dO,dP,dN,dd,dr,eH,dR,dS,dQ,cS,cV,eI,dU,dV,dT,dn,dw,eJ,dY,dZ,dX,dW,eK,eL,eh,eo,ef,ee,eM,eN,di,dj,dE,dI,dL,dK,dJ,eD,cY,dD,dH,aJ,aM,aI,bE,bQ,bP,bf,cD,dC,eO,eE,de,df,dF,c9,cU,cT,e1];unfold kN
 cases h1:pT r.num.ds with
 | false=>rfl
 | true=>
  simp only[Nat.reduceAdd,aa,aQ,cX,ez,cH,eC,ew,cL,cM,cJ,eF,eG,dO,dP,dN,dd,dr,eH,dR,dS,dQ,cS,cV,eI,dU,dV,dT,dn,dw,eJ,dY,dZ,dX,dW,eK,eL,eh,eo,ef,ee,eM,eN,di,dj,dE,dI,dL,dK,dJ,eD,cY,dD,dH,aJ,aM,aI,bE,bQ,bP,bf,cD,dC,eO,eE,de,df,dF,c9,cU,cT,jN,ng,e2,il]
  cases h2:pT r.den.ds with
  | false=>rfl
  | true=>
   simp only[Nat.reduceAdd,aa,aQ,cX,ez,cH,eC,ew,cL,cM,cJ,eF,eG,dO,dP,dN,dd,dr,eH,dR,dS,dQ,cS,cV,eI,dU,dV,dT,dn,dw,eJ,dY,dZ,dX,dW,eK,eL,eh,eo,ef,ee,eM,eN,di,dj,dE,dI,dL,dK,dJ,eD,cY,dD,dH,aJ,aM,aI,bE,bQ,bP,bf,cD,dC,eO,eE,de,df,dF,c9,cU,cT,jN,ng,gZ,me,il,Ho h2];rw[az]
   by_cases h3:r.den.v=0
   ·rw[an h3];simp[h3]
   ·rw[aj h3];simp only[Nat.reduceAdd,aa,aQ,cX,ez,cH,eC,ew,cL,cM,cJ,eF,eG,dO,dP,dN,dd,dr,eH,dR,dS,dQ,cS,cV,eI,dU,dV,dT,dn,dw,eJ,dY,dZ,dX,dW,eK,eL,eh,eo,ef,ee,eM,eN,di,dj,dE,dI,dL,dK,dJ,eD,cY,dD,dH,aJ,aM,aI,bE,bQ,bP,bf,cD,dC,eO,eE,de,df,dF,c9,cU,cT,gZ,me,Ho h1];rw[az]
    by_cases h4:r.num.v=0
    ·rw[an h4]
     cases hn:r.neg with
     | true=>simp only[Nat.reduceAdd,aa,aQ,cX,ez,cH,eC,ew,cL,cM,cJ,eF,eG,dO,dP,dN,dd,dr,eH,dR,dS,dQ,cS,cV,eI,dU,dV,dT,dn,dw,eJ,dY,dZ,dX,dW,eK,eL,eh,eo,ef,ee,eM,eN,di,dj,dE,dI,dL,dK,dJ,eD,cY,dD,dH,aJ,aM,aI,bE,bQ,bP,bf,cD,dC,eO,eE,de,df,dF,c9,cU,cT,jN,ng];simp[h4]
     | false=>
      simp only[Nat.reduceAdd,aa,aQ,cX,ez,cH,eC,ew,cL,cM,cJ,eF,eG,dO,dP,dN,dd,dr,eH,dR,dS,dQ,cS,cV,eI,dU,dV,dT,dn,dw,eJ,dY,dZ,dX,dW,eK,eL,eh,eo,ef,ee,eM,eN,di,dj,dE,dI,dL,dK,dJ,eD,cY,dD,dH,aJ,aM,aI,bE,bQ,bP,bf,cD,dC,eO,eE,de,df,dF,c9,cU,cT,nT,nE,G7,jH,e6,cm];simp[h3,h4]
    ·rw[aj h4];simp only[Nat.reduceAdd,aa,aQ,cX,ez,cH,eC,ew,cL,cM,cJ,eF,eG,dO,dP,dN,dd,dr,eH,dR,dS,dQ,cS,cV,eI,dU,dV,dT,dn,dw,eJ,dY,dZ,dX,dW,eK,eL,eh,eo,ef,ee,eM,eN,di,dj,dE,dI,dL,dK,dJ,eD,cY,dD,dH,aJ,aM,aI,bE,bQ,bP,bf,cD,dC,eO,eE,de,df,dF,c9,cU,cT,G7,e3,jH,e5,cm];simp[h3,h4]
theorem Ll {a b:RV} {k:Nat} (ha:ROk k a) (hb:ROk k b) (hk1:1<=k) (hk:k < 2 ^ 36):∃ s:RV,AP ae 69 [a.av,b.av]=some s.av/\Can s (a.q * b.q)/\s.fr=s:=by
 have g1:=xT ha.num.fr hb.num.fr;have g2:=xT ha.den.fr hb.den.fr;have v1:a.num.fr.v=a.num.v:=rfl;have v2:a.den.fr.v=a.den.v:=rfl;have v3:b.num.fr.v=b.num.v:=rfl;have v4:b.den.fr.v=b.den.v:=rfl;rw[v1,v3] at g1;rw[v2,v4] at g2;have ln:=pG (fA ha.num.v_len ha.ln) (fA hb.num.v_len hb.ln);have ld:=pG (fA ha.den.v_len ha.ld) (fA hb.den.v_len hb.ld);have on:NOk ⟨false,.no,aB (a.num.v * b.num.v)⟩:=ud (by omega);have od:NOk ⟨false,.no,aB (a.den.v * b.den.v)⟩:=ud (by omega);have nf:∀ n:Nat,(NV.mk false .no (aB n)).fr=⟨false,.no,aB n⟩:=fun _=>rfl;have nv:∀ n:Nat,(NV.mk false .no (aB n)).v=n:=fun n=>gj n;obtain ⟨r,h1,h2,h3⟩:=G1 (a.neg != b.neg) on od;rw[nv,nv,<- Er] at h2;refine ⟨r,(cW _ _ (iu r) (lN _) (m:=[cR a,cR b,cR r]) ?_).trans (by rw[h3]),h2,h3⟩;rw[T69];simp only[Nat.reduceAdd,aa,aQ,cX,ez,cH,eC,ew,cL,cM,cJ,eF,eG,dO,dP,dN,dd,dr,eH,dR,dS,dQ,cS,cV,eI,dU,dV,dT,dn,dw,eJ,dY,dZ,dX,dW,eK,eL,eh,eo,ef,ee,eM,eN,di,dj,dE,dI,dL,dK,dJ,eD,cY,dD,dH,aJ,aM,aI,bE,bQ,bP,bf,cD,dC,eO,eE,de,df,dF,c9,cU,cT,g1,g2,nf,h1]
theorem YM {r:RV}:jf r=0↔r.q=0:=by
 unfold jf
 by_cases h:r.num.v=0\/r.den.v=0
 ·rw[an h];refine ⟨fun _=>?_,fun _=>rfl⟩
  rcases h with h | h
  ·rw[RV.q,h,w6]
  ·rw[RV.q,h,zc]
 ·rw[aj h]
  constructor
  ·intro h';split at h'<;>omega
  ·intro h';have hd:r.den.v≠0:=fun e=>h (.inr e);exact absurd (.inl ((XZ hd).1 h')) h
theorem G5 {a b:RV} {k:Nat} (ha:ROk k a) (hb:ROk k b) (hk1:1<=k) (hk:k < 2 ^ 36):∃ s:RV,AP ae 71 [a.av,b.av]=some s.av/\Can s (a.q+b.q)/\s.fr=s:=by
 have e1:=G2 ha.fr;have e2:=G2 hb.fr;have s1:jf a.fr=jf a:=rfl;have s2:jf b.fr=jf b:=rfl;rw[s1] at e1;rw[s2] at e2;have v1:a.num.fr.v=a.num.v:=rfl;have v2:a.den.fr.v=a.den.v:=rfl;have v3:b.num.fr.v=b.num.v:=rfl;have v4:b.den.fr.v=b.den.v:=rfl
 by_cases yq:jf a=0
 ·obtain ⟨r,h1,h2,h3⟩:=G1 b.neg hb.num.fr hb.den.fr;rw[v3,v4] at h2
  refine ⟨r,(cW _ _ (iu r) (lN _) (m:=[cR a,cR b,cR r]) ?_).trans (by rw[h3]),?_,h3⟩
  ·rw[CO];simp only[Nat.reduceAdd,aa,aQ,cX,ez,cH,eC,ew,cL,cM,cJ,eF,eG,dO,dP,dN,dd,dr,eH,dR,dS,dQ,cS,cV,eI,dU,dV,dT,dn,dw,eJ,dY,dZ,dX,dW,eK,eL,eh,eo,ef,ee,eM,eN,di,dj,dE,dI,dL,dK,dJ,eD,cY,dD,dH,aJ,aM,aI,bE,bQ,bP,bf,cD,dC,eO,eE,de,df,dF,c9,cU,cT,e1,ir,az];rw[an yq];simp only[Nat.reduceAdd,aa,aQ,cX,ez,cH,eC,ew,cL,cM,cJ,eF,eG,dO,dP,dN,dd,dr,eH,dR,dS,dQ,cS,cV,eI,dU,dV,dT,dn,dw,eJ,dY,dZ,dX,dW,eK,eL,eh,eo,ef,ee,eM,eN,di,dj,dE,dI,dL,dK,dJ,eD,cY,dD,dH,aJ,aM,aI,bE,bQ,bP,bf,cD,dC,eO,eE,de,df,dF,c9,cU,cT,h1]
  ·rw[YM.1 yq,Rat.zero_add];exact h2
 ·by_cases hb0:jf b=0
  ·obtain ⟨r,h1,h2,h3⟩:=G1 a.neg ha.num.fr ha.den.fr;rw[v1,v2] at h2
   refine ⟨r,(cW _ _ (iu r) (lN _) (m:=[cR a,cR b,cR r]) ?_).trans (by rw[h3]),?_,h3⟩
   ·rw[CO];simp only[Nat.reduceAdd,aa,aQ,cX,ez,cH,eC,ew,cL,cM,cJ,eF,eG,dO,dP,dN,dd,dr,eH,dR,dS,dQ,cS,cV,eI,dU,dV,dT,dn,dw,eJ,dY,dZ,dX,dW,eK,eL,eh,eo,ef,ee,eM,eN,di,dj,dE,dI,dL,dK,dJ,eD,cY,dD,dH,aJ,aM,aI,bE,bQ,bP,bf,cD,dC,eO,eE,de,df,dF,c9,cU,cT,e1,ir,az];rw[aj yq];simp only[Nat.reduceAdd,aa,aQ,cX,ez,cH,eC,ew,cL,cM,cJ,eF,eG,dO,dP,dN,dd,dr,eH,dR,dS,dQ,cS,cV,eI,dU,dV,dT,dn,dw,eJ,dY,dZ,dX,dW,eK,eL,eh,eo,ef,ee,eM,eN,di,dj,dE,dI,dL,dK,dJ,eD,cY,dD,dH,aJ,aM,aI,bE,bQ,bP,bf,cD,dC,eO,eE,de,df,dF,c9,cU,cT,e2,ir,az];rw[an hb0];simp only[Nat.reduceAdd,aa,aQ,cX,ez,cH,eC,ew,cL,cM,cJ,eF,eG,dO,dP,dN,dd,dr,eH,dR,dS,dQ,cS,cV,eI,dU,dV,dT,dn,dw,eJ,dY,dZ,dX,dW,eK,eL,eh,eo,ef,ee,eM,eN,di,dj,dE,dI,dL,dK,dJ,eD,cY,dD,dH,aJ,aM,aI,bE,bQ,bP,bf,cD,dC,eO,eE,de,df,dF,c9,cU,cT,h1]
   ·rw[YM.1 hb0,Rat.add_zero];exact h2
  ·have da:a.den.v≠0:=fun e=>yq (by unfold jf;rw[an (.inr e)]);have db:b.den.v≠0:=fun e=>hb0 (by unfold jf;rw[an (.inr e)]);have g1:=xT ha.num.fr hb.den.fr;have g2:=xT hb.num.fr ha.den.fr;have g3:=xT ha.den.fr hb.den.fr;rw[v1,v4] at g1;rw[v3,v2] at g2;rw[v2,v4] at g3;have lx:=pG (fA ha.num.v_len ha.ln) (fA hb.den.v_len hb.ld);have ly:=pG (fA hb.num.v_len hb.ln) (fA ha.den.v_len ha.ld);have ld:=pG (fA ha.den.v_len ha.ld) (fA hb.den.v_len hb.ld);have lxy:=NS lx ly;have ox:NOk ⟨false,.no,aB (a.num.v * b.den.v)⟩:=ud (by omega);have oy:NOk ⟨false,.no,aB (b.num.v * a.den.v)⟩:=ud (by omega);have od:NOk ⟨false,.no,aB (a.den.v * b.den.v)⟩:=ud (by omega);have nf:∀ n:Nat,(NV.mk false .no (aB n)).fr=⟨false,.no,aB n⟩:=fun _=>rfl;have nv:∀ n:Nat,(NV.mk false .no (aB n)).v=n:=fun n=>gj n;have g4:=qf4 ox oy;have g5:=vW ox oy;have g6:=R5 ox oy;have g7:=R5 oy ox;rw[nv,nv] at g4 g5;unfold O7 at g6 g7;rw[nv,nv] at g6 g7;have nD:a.q+b.q=mkRat (fH a.neg (a.num.v * b.den.v)+fH b.neg (b.num.v * a.den.v)) (a.den.v * b.den.v):=IX da db
   have fin:∀ (neg:Bool) (n:Nat),(aB n).length < 2 ^ 38->mkRat (fH a.neg (a.num.v * b.den.v)+fH b.neg (b.num.v * a.den.v)) (a.den.v * b.den.v)=dh neg n (a.den.v * b.den.v)->∃ r:RV,AP ae 126 [.bool neg,(NV.mk false .no (aB n)).av,(NV.mk false .no (aB (a.den.v * b.den.v))).av]=some r.av/\Can r (a.q+b.q)/\r.fr=r:=by
    intro neg n hn he;obtain ⟨r,h1,h2,h3⟩:=G1 neg (x:=⟨false,.no,aB n⟩) (ud (by omega)) od;rw[nv,nv,<- he,<- nD] at h2;exact ⟨r,h1,h2,h3⟩
   by_cases hn:a.neg=b.neg
   ·obtain ⟨r,h1,h2,h3⟩:=fin a.neg (a.num.v * b.den.v+b.num.v * a.den.v) (by omega) (by rw[<- hn,YG];rfl);refine ⟨r,(cW _ _ (iu r) (lN _) (m:=[cR a,cR b,cR r]) ?_).trans (by rw[h3]),h2,h3⟩;rw[CO];simp only[Nat.reduceAdd,aa,aQ,cX,ez,cH,eC,ew,cL,cM,cJ,eF,eG,dO,dP,dN,dd,dr,eH,dR,dS,dQ,cS,cV,eI,dU,dV,dT,dn,dw,eJ,dY,dZ,dX,dW,eK,eL,eh,eo,ef,ee,eM,eN,di,dj,dE,dI,dL,dK,dJ,eD,cY,dD,dH,aJ,aM,aI,bE,bQ,bP,bf,cD,dC,eO,eE,de,df,dF,c9,cU,cT,e1,ir,az];rw[aj yq];simp only[Nat.reduceAdd,aa,aQ,cX,ez,cH,eC,ew,cL,cM,cJ,eF,eG,dO,dP,dN,dd,dr,eH,dR,dS,dQ,cS,cV,eI,dU,dV,dT,dn,dw,eJ,dY,dZ,dX,dW,eK,eL,eh,eo,ef,ee,eM,eN,di,dj,dE,dI,dL,dK,dJ,eD,cY,dD,dH,aJ,aM,aI,bE,bQ,bP,bf,cD,dC,eO,eE,de,df,dF,c9,cU,cT,e2,ir,az];rw[aj hb0];rw[hn] at h1;simp only[Nat.reduceAdd,aa,aQ,cX,ez,cH,eC,ew,cL,cM,cJ,eF,eG,dO,dP,dN,dd,dr,eH,dR,dS,dQ,cS,cV,eI,dU,dV,dT,dn,dw,eJ,dY,dZ,dX,dW,eK,eL,eh,eo,ef,ee,eM,eN,di,dj,dE,dI,dL,dK,dJ,eD,cY,dD,dH,aJ,aM,aI,bE,bQ,bP,bf,cD,dC,eO,eE,de,df,dF,c9,cU,cT,g1,g2,g3,nf,hn,BEq.rfl,nE,g4,h1]
   ·have hne:(a.neg == b.neg)=false:=by simpa using hn
    by_cases hlt:a.num.v * b.den.v < b.num.v * a.den.v
    ·obtain ⟨r,h1,h2,h3⟩:=fin b.neg (b.num.v * a.den.v - a.num.v * b.den.v) (jr (kR (Nat.sub_le _ _)) (by omega)) (by rw[YE hn hlt];rfl);refine ⟨r,(cW _ _ (iu r) (lN _) (m:=[cR b,cR b,cR r]) ?_).trans (by rw[h3]),h2,h3⟩;have hc:gE (a.num.v * b.den.v) (b.num.v * a.den.v) < 0:=by unfold gE;rw[an hlt];omega
     rw[aj (by omega)] at g7;rw[CO];simp only[Nat.reduceAdd,aa,aQ,cX,ez,cH,eC,ew,cL,cM,cJ,eF,eG,dO,dP,dN,dd,dr,eH,dR,dS,dQ,cS,cV,eI,dU,dV,dT,dn,dw,eJ,dY,dZ,dX,dW,eK,eL,eh,eo,ef,ee,eM,eN,di,dj,dE,dI,dL,dK,dJ,eD,cY,dD,dH,aJ,aM,aI,bE,bQ,bP,bf,cD,dC,eO,eE,de,df,dF,c9,cU,cT,e1,ir,az];rw[aj yq];simp only[Nat.reduceAdd,aa,aQ,cX,ez,cH,eC,ew,cL,cM,cJ,eF,eG,dO,dP,dN,dd,dr,eH,dR,dS,dQ,cS,cV,eI,dU,dV,dT,dn,dw,eJ,dY,dZ,dX,dW,eK,eL,eh,eo,ef,ee,eM,eN,di,dj,dE,dI,dL,dK,dJ,eD,cY,dD,dH,aJ,aM,aI,bE,bQ,bP,bf,cD,dC,eO,eE,de,df,dF,c9,cU,cT,e2,ir,az];rw[aj hb0];simp only[Nat.reduceAdd,aa,aQ,cX,ez,cH,eC,ew,cL,cM,cJ,eF,eG,dO,dP,dN,dd,dr,eH,dR,dS,dQ,cS,cV,eI,dU,dV,dT,dn,dw,eJ,dY,dZ,dX,dW,eK,eL,eh,eo,ef,ee,eM,eN,di,dj,dE,dI,dL,dK,dJ,eD,cY,dD,dH,aJ,aM,aI,bE,bQ,bP,bf,cD,dC,eO,eE,de,df,dF,c9,cU,cT,g1,g2,g3,nf,hne,ng,g5,bg,az];rw[an hc];simp only[Nat.reduceAdd,aa,aQ,cX,ez,cH,eC,ew,cL,cM,cJ,eF,eG,dO,dP,dN,dd,dr,eH,dR,dS,dQ,cS,cV,eI,dU,dV,dT,dn,dw,eJ,dY,dZ,dX,dW,eK,eL,eh,eo,ef,ee,eM,eN,di,dj,dE,dI,dL,dK,dJ,eD,cY,dD,dH,aJ,aM,aI,bE,bQ,bP,bf,cD,dC,eO,eE,de,df,dF,c9,cU,cT,nf,g7,h1]
    ·obtain ⟨r,h1,h2,h3⟩:=fin a.neg (a.num.v * b.den.v - b.num.v * a.den.v) (jr (kR (Nat.sub_le _ _)) (by omega)) (by rw[YD hn hlt];rfl);refine ⟨r,(cW _ _ (iu r) (lN _) (m:=[cR a,cR b,cR r]) ?_).trans (by rw[h3]),h2,h3⟩;have hc:¬ gE (a.num.v * b.den.v) (b.num.v * a.den.v) < 0:=by unfold gE;rw[aj hlt];split<;>omega
     rw[aj hlt] at g6;rw[CO];simp only[Nat.reduceAdd,aa,aQ,cX,ez,cH,eC,ew,cL,cM,cJ,eF,eG,dO,dP,dN,dd,dr,eH,dR,dS,dQ,cS,cV,eI,dU,dV,dT,dn,dw,eJ,dY,dZ,dX,dW,eK,eL,eh,eo,ef,ee,eM,eN,di,dj,dE,dI,dL,dK,dJ,eD,cY,dD,dH,aJ,aM,aI,bE,bQ,bP,bf,cD,dC,eO,eE,de,df,dF,c9,cU,cT,e1,ir,az];rw[aj yq];simp only[Nat.reduceAdd,aa,aQ,cX,ez,cH,eC,ew,cL,cM,cJ,eF,eG,dO,dP,dN,dd,dr,eH,dR,dS,dQ,cS,cV,eI,dU,dV,dT,dn,dw,eJ,dY,dZ,dX,dW,eK,eL,eh,eo,ef,ee,eM,eN,di,dj,dE,dI,dL,dK,dJ,eD,cY,dD,dH,aJ,aM,aI,bE,bQ,bP,bf,cD,dC,eO,eE,de,df,dF,c9,cU,cT,e2,ir,az];rw[aj hb0];simp only[Nat.reduceAdd,aa,aQ,cX,ez,cH,eC,ew,cL,cM,cJ,eF,eG,dO,dP,dN,dd,dr,eH,dR,dS,dQ,cS,cV,eI,dU,dV,dT,dn,dw,eJ,dY,dZ,dX,dW,eK,eL,eh,eo,ef,ee,eM,eN,di,dj,dE,dI,dL,dK,dJ,eD,cY,dD,dH,aJ,aM,aI,bE,bQ,bP,bf,cD,dC,eO,eE,de,df,dF,c9,cU,cT,g1,g2,g3,nf,hne,ng,g5,bg,az];rw[aj hc];simp only[Nat.reduceAdd,aa,aQ,cX,ez,cH,eC,ew,cL,cM,cJ,eF,eG,dO,dP,dN,dd,dr,eH,dR,dS,dQ,cS,cV,eI,dU,dV,dT,dn,dw,eJ,dY,dZ,dX,dW,eK,eL,eh,eo,ef,ee,eM,eN,di,dj,dE,dI,dL,dK,dJ,eD,cY,dD,dH,aJ,aM,aI,bE,bQ,bP,bf,cD,dC,eO,eE,de,df,dF,c9,cU,cT,nf,g6,h1]
end Go.Ab
namespace Go.Ab
open Go.Proofs.Tryz
def Hs (a b:RV):Int:=if jf a < jf b then -1 else if jf a > jf b then 1 else jf a * gE (a.num.v * b.den.v) (b.num.v * a.den.v)
theorem qoA (r:RV):jf r=-1\/jf r=0\/jf r=1:=by
 unfold jf
 split
 ·exact .inr (.inl rfl)
 ·split
  ·exact .inl rfl
  ·exact .inr (.inr rfl)
theorem qjP (a b:Nat):gE a b=-1\/gE a b=0\/gE a b=1:=by
 unfold gE
 split
 ·exact .inl rfl
 ·split
  ·exact .inr (.inr rfl)
  ·exact .inr (.inl rfl)
theorem TF (a b:Nat):gE a b=0↔a=b:=by
 unfold gE
 split
 ·constructor
  ·intro h;cases h
  ·intro h;omega
 ·split
  ·constructor
   ·intro h;cases h
   ·intro h;omega
  ·constructor
   ·intro _;omega
   ·intro _;rfl
theorem ql2 {a b:Int} (ha:a=-1\/a=0\/a=1) (hb:b=-1\/b=0\/b=1):ag .other .mul (.int .i64 a) (.int .i64 b)=some (.int .i64 (a * b)):=by
 rcases ha with rfl | rfl | rfl<;>rcases hb with rfl | rfl | rfl<;>rfl
theorem qga {a b:RV} {k:Nat} (ha:ROk k a) (hb:ROk k b) (fa:a.fr=a) (fb:b.fr=b) (hk1:1<=k) (hk:k < 2 ^ 36):AP ae 153 [a.av,b.av]=some (.int .i64 (Hs a b)):=by
 have fan:a.num.fr=a.num:=dc RV.num fa;have fad:a.den.fr=a.den:=dc RV.den fa;have fbn:b.num.fr=b.num:=dc RV.num fb;have fbd:b.den.fr=b.den:=dc RV.den fb;have l1:(aB (a.num.v * b.den.v)).length < 2 ^ 40:=jr (pG (fA ha.num.v_len ha.ln) (fA hb.den.v_len hb.ld)) (by omega);have l2:(aB (b.num.v * a.den.v)).length < 2 ^ 40:=jr (pG (fA hb.num.v_len hb.ln) (fA ha.den.v_len ha.ld)) (by omega);have e1:=xT ha.num hb.den;have e2:=xT hb.num ha.den;have e3:=vW (x:=⟨false,.no,aB (a.num.v * b.den.v)⟩) (y:=⟨false,.no,aB (b.num.v * a.den.v)⟩) (ud l1) (ud l2);have v1:NV.v ⟨false,.no,aB (a.num.v * b.den.v)⟩=a.num.v * b.den.v:=gj _;have v2:NV.v ⟨false,.no,aB (b.num.v * a.den.v)⟩=b.num.v * a.den.v:=gj _;rw[v1,v2] at e3;have q1:∀ (d:Option Nat) (mm:af),aD (AP ae) d mm 129 [a.av]=some (.int .i64 (jf a),mm):=fun d mm=>by rw[c9,fa,G2 ha];rfl
 have q2:∀ (d:Option Nat) (mm:af),aD (AP ae) d mm 129 [b.av]=some (.int .i64 (jf b),mm):=fun d mm=>by rw[c9,fb,G2 hb];rfl
 have q3:∀ (d:Option Nat) (mm:af),aD (AP ae) d mm 127 [a.num.av,b.den.av]=some (NV.av ⟨false,.no,aB (a.num.v * b.den.v)⟩,mm):=fun d mm=>by rw[df,fan,fbd,e1];rfl
 have q4:∀ (d:Option Nat) (mm:af),aD (AP ae) d mm 127 [b.num.av,a.den.av]=some (NV.av ⟨false,.no,aB (b.num.v * a.den.v)⟩,mm):=fun d mm=>by rw[df,fbn,fad,e2];rfl
 have q5:∀ (d:Option Nat) (mm:af),aD (AP ae) d mm 131 [NV.av ⟨false,.no,aB (a.num.v * b.den.v)⟩,NV.av ⟨false,.no,aB (b.num.v * a.den.v)⟩]=some (.int .i64 (gE (a.num.v * b.den.v) (b.num.v * a.den.v)),mm):=fun d mm=>by
  rw[df,show NV.fr ⟨false,.no,aB (a.num.v * b.den.v)⟩=⟨false,.no,aB (a.num.v * b.den.v)⟩ from rfl,show NV.fr ⟨false,.no,aB (b.num.v * a.den.v)⟩=⟨false,.no,aB (b.num.v * a.den.v)⟩ from rfl,e3];rfl
 refine cW _ _ (gu _ _) rfl (m:=[cR a,cR b]) ?_;rw[qfD,cX,aa,cX,aa];simp only[aM,bE,aJ,bQ,bf];rw[Bz (x:=a) rfl,aa,q1,aa,Bz (x:=b) rfl,aa,q2,aa,bg,aa,az];unfold Hs
 by_cases c1:jf a < jf b
 ·rw[an c1,an c1]
 ·rw[aj c1,aj c1,hJ,aa,az]
  by_cases c2:jf a > jf b
  ·rw[an c2,an c2]
  ·rw[aj c2,aj c2,cM,aa,Yl (x:=a) rfl,aa,cJ,aa,Ym (x:=b) rfl,aa,q3,aa,cM,aa,Yl (x:=b) rfl,aa,cJ,aa,Ym (x:=a) rfl,aa,q4,aa,q5,aa,ql2 (qoA a) (qjP _ _),aa]
theorem YF (neg:Bool) (n:Nat):fH neg n=if neg then -(n:Int) else n:=by cases neg<;>rfl
theorem qjO (a b:RV):Hs a b=0↔a.q=b.q:=by
 have key:∀ r:RV,(jf r=0/\r.q=0)\/(r.num.v≠0/\r.den.v≠0/\r.q≠0/\jf r=if r.neg then -1 else 1):=by
  intro r
  by_cases h:r.num.v=0\/r.den.v=0
  ·left;refine ⟨by unfold jf;rw[an h],?_⟩
   rcases h with h | h
   ·rw[RV.q,h,w6]
   ·rw[RV.q,h,zc]
  ·right;refine ⟨fun e=>h (.inl e),fun e=>h (.inr e),?_,by unfold jf;rw[aj h]⟩;intro e;have hd:r.den.v≠0:=fun e=>h (.inr e)
   have:fH r.neg r.num.v=0:=by
    have e':mkRat (fH r.neg r.num.v) r.den.v=0:=e;exact (Rat.mkRat_eq_zero hd).1 e'
   have h2:(fH r.neg r.num.v).natAbs=0:=by rw[this];rfl
   rw[BB] at h2;exact h (.inl h2)
 unfold Hs
 rcases key a with ⟨a1,a2⟩ | ⟨a1,a2,a3,a4⟩
 ·rcases key b with ⟨b1,b2⟩ | ⟨b1,b2,b3,b4⟩
  ·rw[a1,b1,a2,b2];simp
  ·rw[a1,a2]
   constructor
   ·intro h;rw[b4] at h;by_cases hb:b.neg=true<;>simp[hb] at h
   ·intro h;exact absurd h.symm b3
 ·rcases key b with ⟨b1,b2⟩ | ⟨b1,b2,b3,b4⟩
  ·rw[b1,b2]
   constructor
   ·intro h;rw[a4] at h;by_cases hb:a.neg=true<;>simp[hb] at h
   ·intro h;exact absurd h a3
  ·have hq:a.q=b.q↔fH a.neg a.num.v * (b.den.v:Int)=fH b.neg b.num.v * (a.den.v:Int):=Rat.mkRat_eq_iff a2 b2;rw[hq,a4,b4,YF,YF];have p1:0 < a.num.v * b.den.v:=Nat.mul_pos (by omega) (by omega);have p2:0 < b.num.v * a.den.v:=Nat.mul_pos (by omega) (by omega);have p1':(a.num.v:Int) * (b.den.v:Int)=((a.num.v * b.den.v:Nat):Int):=(rQ _ _).symm;have p2':(b.num.v:Int) * (a.den.v:Int)=((b.num.v * a.den.v:Nat):Int):=(rQ _ _).symm
   cases a.neg<;>cases b.neg
   ·simp only[jM,lL,p1',p2'];rw[aj (by omega),aj (by omega),Int.one_mul,TF];omega
   ·simp only[jM,lL,bq,Int.neg_mul,p1',p2'];rw[aj (by omega),an (by omega)];omega
   ·simp only[jM,lL,bq,Int.neg_mul,p1',p2'];rw[an (by omega)];omega
   ·simp only[bq,Int.neg_mul,p1',p2'];rw[aj (by omega),aj (by omega),Int.one_mul,Int.neg_eq_zero,TF];omega
theorem qf2 {a b:RV} {k:Nat} (ha:ROk k a) (hb:ROk k b) (fa:a.fr=a) (fb:b.fr=b) (hk1:1<=k) (hk:k < 2 ^ 36):AP ae 113 [a.av,b.av]=some (.bool (decide (a.q=b.q))):=by
 have e:=qga ha hb fa fb hk1 hk;refine cW (.bool (decide (a.q=b.q))) (.bool (decide (a.q=b.q))) (fun _=>rfl) rfl (m:=[cR a,cR b]) ?_;rw[qff,cX,aa,cX,aa];simp only[aM,bE,aJ,bQ,bf];rw[Bz (x:=a) rfl,aa,Bz (x:=b) rfl,aa,cU,fa,fb,e,aQ,aa,ir,aa];rw[jD.2 (qjO a b)]
theorem Bl (m:af):aA none m (.obj true [.bool false,au,au])=(m.length,m++[cR zR]):=rfl
end Go.Ab
namespace Go.Ab
noncomputable section
open Go.Proofs.Tryz
def Kq (x1 x3:AV) (m:af):St:=⟨(aH (x1::aH (x3::br (aP [])))),m⟩
def GN (x2:AV) (m:af):St:=⟨(aO (x2::br (aP (aH [])))),m⟩
def FI (x1 x3 qP E4 BQ:AV) (m:af) (K:KT):OM:=b8 112 (ck (c2 (c2 (c2 (aC f112))))) 5 (aH (x1::aH (x3::bI (qP::E4::BQ::bI (aH []))))) m K
abbrev qat (K:KT):KT:=bF 112 (bo (aC f112)) K
abbrev qau (K:KT):KT:=bu 0 (qat K)
abbrev Fe (K:KT):KT:=(qau K)
theorem qfe (a0:AV) (m:af):AC ae 112 [a0] m=(eR none (some 4) m a0).bind fun r1=>(aS 0 r1.1).bind fun v2=>(ai none r1.2 v2).bind fun v3=>(aK false v3).bind fun v4=>(ag .other .gtr v4 (.int .i64 16)).bind fun v5=>aw v5 (some ((.bool false),r1.2)) ((aS 3 r1.1).bind fun v6=>(ai none r1.2 v6).bind fun v7=>(ag .other .lss v7 (.int .i64 0)).bind fun v8=>aw v8 (some ((.bool false),r1.2)) ((aS 3 r1.1).bind fun v9=>(ai none r1.2 v9).bind fun v10=>(ag .other .gtr v10 (.int .i64 2147483647)).bind fun v11=>aw v11 (some ((.bool false),r1.2)) ((aS 1 r1.1).bind fun v12=>(ai none r1.2 v12).bind fun bp=>(aK false bp).bind fun bj=>(ag .other .gtr bj (.int .i64 4000)).bind fun bn=>aw bn (some ((.bool false),r1.2)) ((aS 2 r1.1).bind fun bO=>(ai none r1.2 bO).bind fun bB=>(aK false bB).bind fun fk=>(aS 1 r1.1).bind fun eU=>(ai none r1.2 eU).bind fun v20=>(aK false v20).bind fun v21=>(ag .other .neq fk v21).bind fun v22=>aw v22 (some ((.bool false),r1.2)) ((aS 0 r1.1).bind fun v23=>(ai none r1.2 v23).bind fun v24=>(aK false v24).bind fun v25=>FI r1.1 (.lst none true .full []) v24 v25 (.int .i64 0) r1.2 (Fe (aF ae.P f112.results.toList))))))):=
(bh ae 112 [a0] m (fn:=f112) (c:=aC f112) qht rfl).trans (by kernel_rfl)
theorem Qb (x1 x3 qP E4 BQ:AV) (m:af) (K:KT):FI x1 x3 qP E4 BQ m K=(ag .other .lss BQ E4).bind fun v1=>aw v1 ((aG none qP BQ).bind fun v2=>(ai none m v2).bind fun v3=>(aK false v3).bind fun v4=>(ag .other .lss v4 (.int .i64 1)).bind fun v5=>aw v5 (K .ret (GN (.bool false) m)) ((aK false v3).bind fun v6=>(ag .other .gtr v6 (.int .i64 64)).bind fun v7=>aw v7 (K .ret (GN (.bool false) m)) ((aK false v3).bind fun v8=>(fh none [v8]).bind fun v9=>(cg none false 3 none 8 m x3 v9).bind fun iE=>(ag .other .add BQ (.int .i64 1)).bind fun v11=>FI x1 iE.1 qP E4 v11 iE.2 K))) (K (.exit 0) (Kq x1 x3 m)):=
(b7 (bX _) _ _ _).trans (by kernel_rfl)
theorem qaw (x1 x3:AV) (m:af):Fe (aF ae.P f112.results.toList) (.exit 0) (Kq x1 x3 m)=(aS 0 x1).bind fun v1=>(ai none m v1).bind fun v2=>(aD (AP ae) none m 63 [x3,v2]).bind fun r3=>aw r3.1 ((aS 1 x1).bind fun v4=>(ai none r3.2 v4).bind fun v5=>(aD (AP ae) none r3.2 107 [x3,v5]).bind fun r6=>aw r6.1 ((aS 2 x1).bind fun v7=>(ai none r6.2 v7).bind fun v8=>(aD (AP ae) none r6.2 150 [v8,(.fn 151 [])]).bind fun r9=>(jg .not r9.1).bind fun v10=>some (v10,r9.2)) (some ((.bool false),r6.2))) (some ((.bool false),r3.2)):=by kernel_rfl
theorem qav (x2:AV) (m:af):Fe (aF ae.P f112.results.toList) .ret (GN x2 m)=some (x2,m):=by kernel_rfl
def GC (x8 x9:AV) (m:af):St:=⟨(aY (x8::x9::bI (aP []))),m⟩
def zK (x0 x3 x5 x8 x9 bY cr iG:AV) (m:af) (K:KT):OM:=b8 110 (ck (c2 (c2 (c2 (aC f110))))) 7 (x0::aO (x3::aH (x5::aO (x8::x9::aY (aP (aH (bY::cr::iG::bD (aP [])))))))) m K
abbrev qar (K:KT):KT:=bF 110 (bo (aC f110)) K
abbrev qas (K:KT):KT:=bu 0 (qar K)
abbrev B2 (K:KT):KT:=(qas K)
theorem RF (a0 a1 a2 a3:AV) (m:af):AC ae 110 [a0,a1,a2,a3] m=(eR none (some 3) m a1).bind fun r1=>(aS 0 r1.1).bind fun v2=>(ai none (aA none r1.2 (.obj true [(.bool false),(.lst none true .full []),(.lst none true .full [])])).2 v2).bind fun v3=>(ag .other .lss v3 (.int .i64 0)).bind fun v4=>aw v4 ((aS 2 r1.1).bind fun v5=>(ai none (aA none r1.2 (.obj true [(.bool false),(.lst none true .full []),(.lst none true .full [])])).2 v5).bind fun v6=>(ag .other .eql v6 a2).bind fun v7=>aw v7 ((aD (AP ae) none (aA none r1.2 (.obj true [(.bool false),(.lst none true .full []),(.lst none true .full [])])).2 64 []).bind fun r8=>(aN (some 3) r8.2 (.ptr (aA none r1.2 .resv).1 0) r8.1).bind fun m9=>(ai (some 3) m9 (.ptr (aA none r1.2 .resv).1 0)).bind fun v10=>some (v10,m9)) ((aD (AP ae) none (aA none r1.2 (.obj true [(.bool false),(.lst none true .full []),(.lst none true .full [])])).2 114 []).bind fun jy=>(aN (some 3) jy.2 (.ptr (aA none r1.2 .resv).1 0) jy.1).bind fun m12=>(ai (some 3) m12 (.ptr (aA none r1.2 .resv).1 0)).bind fun bp=>some (bp,m12))) ((aD (AP ae) none (aA none r1.2 (.obj true [(.bool false),(.lst none true .full []),(.lst none true .full [])])).2 114 []).bind fun jG=>(aN (some 3) (aA none jG.2 (.obj true [(.bool false),(.lst none true .full []),(.lst none true .full [])])).2 (.ptr (aA none jG.2 .resv).1 0) jG.1).bind fun m15=>(aS 1 r1.1).bind fun bO=>(ai none m15 bO).bind fun bB=>(aK false bB).bind fun fk=>zK a0 a3 r1.1 (.ptr (aA none r1.2 .resv).1 0) (.ptr (aA none jG.2 .resv).1 0) bB fk (.int .i64 0) m15 (B2 (aF ae.P f110.results.toList))):=
(bh ae 110 [a0,a1,a2,a3] m (fn:=f110) (c:=aC f110) qhs rfl).trans (by kernel_rfl)
theorem FH (x0 x3 x5 x8 x9 bY cr iG:AV) (m:af) (K:KT):zK x0 x3 x5 x8 x9 bY cr iG m K=(ag .other .lss iG cr).bind fun v1=>aw v1 ((aG none bY iG).bind fun v2=>(ai none m v2).bind fun v3=>(ai (some 3) m x9).bind fun v4=>(aS 0 x5).bind fun v5=>(ai none m v5).bind fun v6=>(aG none x0 v6).bind fun v7=>(ai none m v7).bind fun v8=>(aD (AP ae) (some m.length) m 70 [v8,iG]).bind fun r9=>(aG (some 3) x3 v3).bind fun v10=>(ai (some 3) r9.2 v10).bind fun v11=>(aD (AP ae) (some m.length) r9.2 69 [r9.1,v11]).bind fun kT=>(aD (AP ae) (some m.length) kT.2 71 [v4,kT.1]).bind fun fW=>(aN (some 3) fW.2 x9 fW.1).bind fun m14=>(ag .other .add iG (.int .i64 1)).bind fun bn=>zK x0 x3 x5 x8 x9 bY cr bn m14 K) (K (.exit 0) (GC x8 x9 m)):=
(b7 (bX _) _ _ _).trans (by kernel_rfl)
theorem PW (x8 x9:AV) (m:af):B2 (aF ae.P f110.results.toList) (.exit 0) (GC x8 x9 m)=(ai (some 3) m x9).bind fun v1=>(aN (some 3) m x8 v1).bind fun m2=>(ai (some 3) m2 x8).bind fun v3=>some (v3,m2):=by kernel_rfl
def GB (x1:AV) (m:af):St:=⟨(aH (x1::br (bD (aY (aO []))))),m⟩
def tn (x4:AV) (m:af):St:=⟨(aP (x4::br (bD (aP (aO (aH [])))))),m⟩
def uu (x0 x1 x9 aE aW:AV) (m:af) (K:KT):OM:=b8 107 (ck (c2 (aC f107))) 2 (x0::x1::aP (aO (aH (x9::aE::aW::br (bD []))))) m K
def Gz (x0 x1 x9 aE aW:AV) (m:af):St:=⟨(x0::x1::aP (aO (aH (x9::aE::aW::br (bD []))))),m⟩
def CH (x4:AV) (m:af):St:=⟨(aP (x4::br (bD (aP (aO (aH [])))))),m⟩
def xE (x0 x1 x5 x6 x9 aE aW rK rL qj:AV) (m:af) (K:KT):OM:=b8 107 (uO (lS (lS (c2 (c1 (c2 (aC f107))))))) 10 (x0::x1::aO (aH (x5::x6::aO (x9::aE::aW::bI (aY (aP (rK::rL::qj::bI (aH [])))))))) m K
abbrev qae (K:KT):KT:=bF 107 (c2 (c2 (aC f107))) K
abbrev qaf (K:KT):KT:=bu 0 (qae K)
abbrev tf (K:KT):KT:=(qaf K)
abbrev qab (K:KT):KT:=bF 107 (lT (nr (aC f107))) (oH 107 (ck (c2 (aC f107))) 2 K)
abbrev qac (K:KT):KT:=bu 1 (qab K)
abbrev qad (K:KT):KT:=bu 2 (qac K)
abbrev zH (K:KT):KT:=(qad K)
theorem RE (a0 a1:AV) (m:af):AC ae 107 [a0,a1] m=(aK false a1).bind fun v1=>uu a0 a1 a1 v1 (.int .i64 0) m (tf (aF ae.P f107.results.toList)):=
(bh ae 107 [a0,a1] m (fn:=f107) (c:=aC f107) qho rfl).trans (by kernel_rfl)
theorem FG (x0 x1 x9 aE aW:AV) (m:af) (K:KT):uu x0 x1 x9 aE aW m K=(ag .other .lss aW aE).bind fun v1=>aw v1 ((aG (some 3) x9 aW).bind fun v2=>(ai (some 3) m v2).bind fun v3=>(aN (some 3) (aA none m (.obj true [(.int .i64 0),(.lst none true .full []),(.int .i64 0)])).2 (.ptr (aA none m .resv).1 0) v3).bind fun m4=>(aS 0 (.ptr (aA none m .resv).1 0)).bind fun v5=>(ai none m4 v5).bind fun v6=>(ag .other .eql v6 (.int .i64 (-1))).bind fun v7=>aw v7 ((aS 1 (.ptr (aA none m .resv).1 0)).bind fun v8=>(ai none m4 v8).bind fun v9=>(aK false v9).bind fun v10=>(ag .other .gtr v10 (.int .i64 0)).bind fun v11=>aw v11 (K .ret (tn (.bool false) m4)) ((aS 2 (.ptr (aA none m .resv).1 0)).bind fun v12=>(ai none m4 v12).bind fun bp=>(aD (AP ae) none m4 94 [bp]).bind fun jG=>(jg .not jG.1).bind fun bn=>aw bn (K .ret (tn (.bool false) jG.2)) ((ag .other .add aW (.int .i64 1)).bind fun bO=>uu x0 x1 x9 aE bO jG.2 K))) ((aS 0 (.ptr (aA none m .resv).1 0)).bind fun bB=>(ai none m4 bB).bind fun fk=>(ag .other .lss fk (.int .i64 0)).bind fun eU=>aw eU (K .ret (tn (.bool false) m4)) ((aS 0 (.ptr (aA none m .resv).1 0)).bind fun v20=>(ai none m4 v20).bind fun v21=>(aK false x0).bind fun v22=>(ag .other .geq v21 v22).bind fun v23=>aw v23 (K .ret (tn (.bool false) m4)) ((aS 2 (.ptr (aA none m .resv).1 0)).bind fun v24=>(ai none m4 v24).bind fun v25=>(ag .other .neq v25 (.int .i64 0)).bind fun v26=>aw v26 (K .ret (tn (.bool false) m4)) ((aS 1 (.ptr (aA none m .resv).1 0)).bind fun jK=>(ai none m4 jK).bind fun v28=>(aK false v28).bind fun j9=>(aS 0 (.ptr (aA none m .resv).1 0)).bind fun v30=>(ai none m4 v30).bind fun v31=>(aG none x0 v31).bind fun mN=>(ai none m4 mN).bind fun oI=>(ag .other .neq j9 oI).bind fun qN=>aw qN (K .ret (tn (.bool false) m4)) ((aS 1 (.ptr (aA none m .resv).1 0)).bind fun ml=>(ai none m4 ml).bind fun vI=>(aK false vI).bind fun v37=>xE x0 x1 aW (.ptr (aA none m .resv).1 0) x9 aE aW vI v37 (.int .i64 0) m4 (zH K))))))) (K (.exit 0) (GB x1 m)):=
(b7 (bX _) _ _ _).trans (by kernel_rfl)
theorem FF (x0 x1 x5 x6 x9 aE aW rK rL qj:AV) (m:af) (K:KT):xE x0 x1 x5 x6 x9 aE aW rK rL qj m K=(ag .other .lss qj rL).bind fun v1=>aw v1 ((aG none rK qj).bind fun v2=>(ai none m v2).bind fun v3=>(ag .other .lss v3 (.int .i64 0)).bind fun v4=>aw v4 (K .ret (CH (.bool false) m)) ((ag .other .geq v3 x5).bind fun v5=>aw v5 (K .ret (CH (.bool false) m)) ((aG (some 3) x1 v3).bind fun v6=>(aS 0 v6).bind fun v7=>(ai none m v7).bind fun v8=>(ag .other .geq v8 (.int .i64 0)).bind fun v9=>aw v9 ((aG (some 3) x1 v3).bind fun v10=>(aS 0 v10).bind fun v11=>(ai none m v11).bind fun v12=>(aS 0 x6).bind fun bp=>(ai none m bp).bind fun bj=>(ag .other .leq v12 bj).bind fun bn=>aw bn (K .ret (CH (.bool false) m)) ((ag .other .add qj (.int .i64 1)).bind fun bO=>xE x0 x1 x5 x6 x9 aE aW rK rL bO m K)) ((ag .other .add qj (.int .i64 1)).bind fun bB=>xE x0 x1 x5 x6 x9 aE aW rK rL bB m K)))) (K (.exit 2) (Gz x0 x1 x9 aE aW m)):=
(b7 (bX _) _ _ _).trans (by kernel_rfl)
theorem PV (x1:AV) (m:af):tf (aF ae.P f107.results.toList) (.exit 0) (GB x1 m)=(aK false x1).bind fun v1=>(ag .other .gtr v1 (.int .i64 0)).bind fun v2=>some (v2,m):=by kernel_rfl
theorem tg (x4:AV) (m:af):tf (aF ae.P f107.results.toList) .ret (tn x4 m)=some (x4,m):=by kernel_rfl
theorem PU (x0 x1 x9 aE aW:AV) (m:af) (K:KT):zH K (.exit 2) (Gz x0 x1 x9 aE aW m)=(ag .other .add aW (.int .i64 1)).bind fun v1=>uu x0 x1 x9 aE v1 m K:=by kernel_rfl
theorem Fb (x4:AV) (m:af) (K:KT):zH K .ret (CH x4 m)=K .ret (tn x4 m):=by kernel_rfl
theorem qfA (a0 a1:AV) (m:af):AC ae 150 [a0,a1] m=(aD (AP ae) none m 180 [a0,a1]).bind fun r1=>(ag .other .geq r1.1 (.int .i64 0)).bind fun v2=>some (v2,r1.2):=
(bh ae 150 [a0,a1] m (fn:=f150) (c:=aC f150) qhW rfl).trans (by kernel_rfl)
theorem qfB (a0:AV) (m:af):AC ae 151 [a0] m=(eR none (some 3) m a0).bind fun r1=>(ai (some 3) r1.2 r1.1).bind fun v2=>(aD (AP ae) none r1.2 152 [v2]).bind fun r3=>(jg .not r3.1).bind fun v4=>some (v4,r3.2):=
(bh ae 151 [a0] m (fn:=f151) (c:=aC f151) qhX rfl).trans (by kernel_rfl)
def CE (m:af):St:=⟨(bD (aO (aH []))),m⟩
def Aj (x4:AV) (m:af):St:=⟨(aP (x4::aY (aP (aO [])))),m⟩
def zS (x0 x1 x7 x8:AV) (m:af) (K:KT):OM:=b8 180 (ck (c2 (aC f180))) 2 (x0::x1::aP (aH (x7::x8::aY (aO [])))) m K
abbrev qcB (K:KT):KT:=bF 180 (c2 (c2 (aC f180))) K
abbrev qcC (K:KT):KT:=bu 0 (qcB K)
abbrev Fp (K:KT):KT:=(qcC K)
theorem RP (a0 a1:AV) (m:af):AC ae 180 [a0,a1] m=(aK false a0).bind fun v1=>zS a0 a1 v1 (.int .i64 0) m (Fp (aF ae.P f180.results.toList)):=
(bh ae 180 [a0,a1] m (fn:=f180) (c:=aC f180) qif rfl).trans (by kernel_rfl)
theorem QH (x0 x1 x7 x8:AV) (m:af) (K:KT):zS x0 x1 x7 x8 m K=(ag .other .lss x8 x7).bind fun v1=>aw v1 ((aG (some 3) x0 x8).bind fun v2=>(ai (some 3) m v2).bind fun v3=>(lp x1).bind fun g4=>jU ae 180 (AP ae) (AC ae) none g4.1 ([v3]++g4.2) m fun v5 m6=>aw v5 (K .ret (Aj x8 m6)) ((ag .other .add x8 (.int .i64 1)).bind fun v7=>zS x0 x1 x7 v7 m6 K)) (K (.exit 0) (CE m)):=
(b7 (bX _) _ _ _).trans (by kernel_rfl)
theorem qcE (m:af):Fp (aF ae.P f180.results.toList) (.exit 0) (CE  m)=some ((.int .i64 (-1)),m):=by kernel_rfl
theorem qcD (x4:AV) (m:af):Fp (aF ae.P f180.results.toList) .ret (Aj x4 m)=some (x4,m):=by kernel_rfl
def K0 (x1 x2:AV) (m:af):St:=⟨(aH (x1::x2::bI (aY (aP [])))),m⟩
def GU (x2 x3 x4:AV) (m:af):St:=⟨(aO (x2::x3::x4::bI (aY (aO [])))),m⟩
def zV (x1 x2 aL aV aX:AV) (m:af) (K:KT):OM:=b8 53 (ck (c2 (c2 (aC f53)))) 4 (aH (x1::x2::aY (aH (aL::aV::aX::bI [])))) m K
abbrev qdT (K:KT):KT:=bF 53 (c2 (c2 (c2 (aC f53)))) K
abbrev qdU (K:KT):KT:=bu 0 (qdT K)
abbrev Fy (K:KT):KT:=(qdU K)
theorem T53 (a0:AV) (m:af):AC ae 53 [a0] m=(eR none (some 4) m a0).bind fun r1=>(ai (some 4) (aA none r1.2 (.obj true [(.bool false),(.lst none true .full []),(.lst none true .full [])])).2 r1.1).bind fun v2=>(aD (AP ae) none (aA none r1.2 (.obj true [(.bool false),(.lst none true .full []),(.lst none true .full [])])).2 112 [v2]).bind fun r3=>(jg .not r3.1).bind fun v4=>aw v4 ((fR (.agg [(.bool false),(.lst none true .full []),(.lst none true .full [])]) []).bind fun v5=>(aN (some 3) r3.2 (.ptr (aA none r1.2 .resv).1 0) v5).bind fun m6=>(ai (some 3) m6 (.ptr (aA none r1.2 .resv).1 0)).bind fun v7=>some ((.tup [v7,(.int .i64 0),(.int .i64 1)]),m6)) ((aS 1 r1.1).bind fun v8=>(ai none r3.2 v8).bind fun v9=>(aK false v9).bind fun v10=>zV r1.1 (.ptr (aA none r1.2 .resv).1 0) v9 v10 (.int .i64 0) r3.2 (Fy (aF ae.P f53.results.toList))):=
(bh ae 53 [a0] m (fn:=f53) (c:=aC f53) qiH rfl).trans (by kernel_rfl)
theorem QZ (x1 x2 aL aV aX:AV) (m:af) (K:KT):zV x1 x2 aL aV aX m K=(ag .other .lss aX aV).bind fun v1=>aw v1 ((aG (some 3) aL aX).bind fun v2=>(ai (some 3) m v2).bind fun v3=>(aN (some 3) (aA none m (.obj true [(.int .i64 0),(.lst none true .full []),(.int .i64 0)])).2 (.ptr (aA none m .resv).1 0) v3).bind fun m4=>(aS 2 x1).bind fun v5=>(ai none m4 v5).bind fun v6=>(aG (some 3) v6 aX).bind fun v7=>(ai (some 3) m4 v7).bind fun v8=>(aS 0 x1).bind fun v9=>(ai none m4 v9).bind fun v10=>(ai (some 3) m4 (.ptr (aA none m .resv).1 0)).bind fun v11=>(aS 3 x1).bind fun v12=>(ai none m4 v12).bind fun bp=>(aS 2 x1).bind fun bj=>(ai none m4 bj).bind fun bn=>(aD (AP ae) (some m4.length) m4 110 [v10,v11,bp,bn]).bind fun gV=>(aD (AP ae) (some m4.length) gV.2 113 [v8,gV.1]).bind fun vD=>(jg .not vD.1).bind fun fk=>aw fk ((fR (.agg [(.bool false),(.lst none true .full []),(.lst none true .full [])]) []).bind fun eU=>(aN (some 3) vD.2 x2 eU).bind fun m20=>K .ret (GU x2 aX (.int .i64 32) m20)) ((ag .other .add aX (.int .i64 1)).bind fun v21=>zV x1 x2 aL aV v21 vD.2 K)) (K (.exit 0) (K0 x1 x2 m)):=
(b7 (bX _) _ _ _).trans (by kernel_rfl)
theorem qdW (x1 x2:AV) (m:af):Fy (aF ae.P f53.results.toList) (.exit 0) (K0 x1 x2 m)=(aS 2 x1).bind fun v1=>(ai none m v1).bind fun v2=>(aS 2 x1).bind fun v3=>(ai none m v3).bind fun v4=>(aK false v4).bind fun v5=>(ag .other .sub v5 (.int .i64 1)).bind fun v6=>(aG (some 3) v2 v6).bind fun v7=>(ai (some 3) m v7).bind fun v8=>(aD (AP ae) (some m.length) m 114 []).bind fun r9=>(aD (AP ae) (some m.length) r9.2 71 [v8,r9.1]).bind fun iE=>(aN (some 3) iE.2 x2 iE.1).bind fun m11=>(ai (some 3) m11 x2).bind fun v12=>some ((.tup [v12,(.int .i64 0),(.int .i64 0)]),m11):=by kernel_rfl
theorem qdV (x2 x3 x4:AV) (m:af):Fy (aF ae.P f53.results.toList) .ret (GU x2 x3 x4 m)=(ai (some 3) m x2).bind fun v1=>some ((.tup [v1,x3,x4]),m):=by kernel_rfl
end
end Go.Ab
namespace Go.Ab
noncomputable section
open Go.Proofs.Tryz
def K1 (m:af):St:=⟨(bI (bD (aO []))),m⟩
def CK (x4:AV) (m:af):St:=⟨(aP (x4::bI (aY (aP (aH []))))),m⟩
def Gk (x0 fw bS eZ:AV) (m:af) (K:KT):OM:=b8 63 (ck (c2 (c2 (aC f63)))) 4 (x0::aY (aP (aO (fw::bS::eZ::bI [])))) m K
def K2 (x0 x5 x6 x7 fw bS eZ:AV) (m:af):St:=⟨(x0::aP (x5::x6::x7::aP (aO (aH (fw::bS::eZ::bI []))))),m⟩
def GV (x4:AV) (m:af):St:=⟨(aP (x4::bI (aY (aP (aH []))))),m⟩
def Gl (x0 x5 x6 x7 fw bS eZ bW bY cr:AV) (m:af) (K:KT):OM:=b8 63 (ck (lS (lS (pU (aC f63))))) 8 (x0::aP (x5::x6::x7::aP (aO (aH (fw::bS::eZ::aP (bW::bY::cr::bD (aY (aH [])))))))) m K
abbrev qd0 (K:KT):KT:=bF 63 (c2 (c2 (c2 (aC f63)))) K
abbrev qd1 (K:KT):KT:=bu 0 (qd0 K)
abbrev Kb (K:KT):KT:=(qd1 K)
abbrev qd4 (K:KT):KT:=bF 63 (lT (nr (c2 (aC f63)))) (oH 63 (ck (c2 (c2 (aC f63)))) 4 K)
abbrev qd5 (K:KT):KT:=bu 1 (qd4 K)
abbrev qd6 (K:KT):KT:=bF 63 (lT (Av (nr (c2 (aC f63))))) (qd5 K)
abbrev qd7 (K:KT):KT:=bu 2 (qd6 K)
abbrev FB (K:KT):KT:=(qd7 K)
theorem T63 (a0 a1:AV) (m:af):AC ae 63 [a0,a1] m=(aK false a1).bind fun v1=>(aK false a0).bind fun v2=>(ag .other .neq v1 v2).bind fun v3=>aw v3 (some ((.bool false),m)) ((aK false a1).bind fun v4=>Gk a0 a1 v4 (.int .i64 0) m (Kb (aF ae.P f63.results.toList))):=
(bh ae 63 [a0,a1] m (fn:=f63) (c:=aC f63) qiL rfl).trans (by kernel_rfl)
theorem Q1 (x0 fw bS eZ:AV) (m:af) (K:KT):Gk x0 fw bS eZ m K=(ag .other .lss eZ bS).bind fun v1=>aw v1 ((aG none fw eZ).bind fun v2=>(ai none m v2).bind fun v3=>(aK false v3).bind fun v4=>Gl x0 eZ v3 (.int .i64 0) fw bS eZ v3 v4 (.int .i64 0) m (FB K)) (K (.exit 0) (K1 m)):=
(b7 (bX _) _ _ _).trans (by kernel_rfl)
theorem Q2 (x0 x5 x6 x7 fw bS eZ bW bY cr:AV) (m:af) (K:KT):Gl x0 x5 x6 x7 fw bS eZ bW bY cr m K=(ag .other .lss cr bY).bind fun v1=>aw v1 ((aG none bW cr).bind fun v2=>(ai none m v2).bind fun v3=>(ag .other .lss v3 (.int .i64 0)).bind fun v4=>aw v4 (K .ret (GV (.bool false) m)) ((ag .other .gtr v3 (.int .i64 1000)).bind fun v5=>aw v5 (K .ret (GV (.bool false) m)) ((ag .other .add x7 v3).bind fun v6=>(ag .other .add cr (.int .i64 1)).bind fun v7=>Gl x0 x5 x6 v6 fw bS eZ bW bY v7 m K))) (K (.exit 2) (K2 x0 x5 x6 x7 fw bS eZ m)):=
(b7 (bX _) _ _ _).trans (by kernel_rfl)
theorem qd3 (m:af):Kb (aF ae.P f63.results.toList) (.exit 0) (K1  m)=some ((.bool true),m):=by kernel_rfl
theorem qd2 (x4:AV) (m:af):Kb (aF ae.P f63.results.toList) .ret (CK x4 m)=some (x4,m):=by kernel_rfl
theorem qd9 (x0 x5 x6 x7 fw bS eZ:AV) (m:af) (K:KT):FB K (.exit 2) (K2 x0 x5 x6 x7 fw bS eZ m)=(aK false x6).bind fun v1=>(aG none x0 x5).bind fun v2=>(ai none m v2).bind fun v3=>(ag .other .neq v1 v3).bind fun v4=>aw v4 (K .ret (CK (.bool false) m)) ((ag .other .eql x7 (.int .i64 0)).bind fun v5=>aw v5 (K .ret (CK (.bool false) m)) ((ag .other .add eZ (.int .i64 1)).bind fun v6=>Gk x0 fw bS v6 m K)):=by kernel_rfl
theorem qd8 (x4:AV) (m:af) (K:KT):FB K .ret (GV x4 m)=K .ret (CK x4 m):=by kernel_rfl
def K3 (x0 x1 x4 x5:AV) (m:af):St:=⟨(x0::x1::aO (x4::x5::bD (aY []))),m⟩
def Gm (x0 x1 x4 x5 aE aW aL:AV) (m:af) (K:KT):OM:=b8 70 (ck (c2 (c2 (aC f70)))) 3 (x0::x1::aO (x4::x5::aP (aE::aW::aL::bD (aH [])))) m K
abbrev qea (K:KT):KT:=bF 70 (c2 (c2 (c2 (aC f70)))) K
abbrev qeb (K:KT):KT:=bu 0 (qea K)
abbrev Kc (K:KT):KT:=(qeb K)
theorem T70 (a0 a1:AV) (m:af):AC ae 70 [a0,a1] m=(aK false a0).bind fun v1=>Gm a0 a1 (.ptr (aA none m .resv).1 0) (.int .i64 0) a0 v1 (.int .i64 0) (aA none m (.obj true [(.bool false),au,au])).2 (Kc (aF ae.P f70.results.toList)):=
(bh ae 70 [a0,a1] m (fn:=f70) (c:=aC f70) qiS rfl).trans (by kernel_rfl)
theorem Q3 (x0 x1 x4 x5 aE aW aL:AV) (m:af) (K:KT):Gm x0 x1 x4 x5 aE aW aL m K=(ag .other .lss aL aW).bind fun v1=>aw v1 ((aG none aE aL).bind fun v2=>(ai none m v2).bind fun v3=>(ag .other .add x5 v3).bind fun v4=>(ag .other .add aL (.int .i64 1)).bind fun v5=>Gm x0 x1 x4 v4 aE aW v5 m K) (K (.exit 0) (K3 x0 x1 x4 x5 m)):=
(b7 (bX _) _ _ _).trans (by kernel_rfl)
theorem qec (x0 x1 x4 x5:AV) (m:af):Kc (aF ae.P f70.results.toList) (.exit 0) (K3 x0 x1 x4 x5 m)=(aG none x0 x1).bind fun v1=>(ai none m v1).bind fun v2=>(aD (AP ae) none m 128 [v2,x5]).bind fun r3=>(ba r3.1 0).bind fun v4=>(ba r3.1 1).bind fun v5=>(aN (some 3) (aA none r3.2 (.obj true [(.bool false),au,au])).2 (.ptr (aA none r3.2 .resv).1 0) v4).bind fun m6=>(ai (some 3) m6 (.ptr (aA none r3.2 .resv).1 0)).bind fun v7=>(aN (some 3) m6 x4 v7).bind fun m8=>(ai (some 3) m8 x4).bind fun v9=>some (v9,m8):=by kernel_rfl
theorem T67 (a0 a1 a2:AV) (m:af):AC ae 67 [a0,a1,a2] m=(ai none m a2).bind fun v1=>(ai none m a2).bind fun v2=>(AC ae 68 [v1,a0] m).bind fun r3=>tZ ((ai none r3.2 a2).bind (fun v=>some (v,r3.2))=some (v2,r3.2)) ((AC ae 68 [v2,a1] r3.2).bind fun r4=>(ag .other .sub r3.1 r4.1).bind fun v5=>some (v5,r4.2)):=
(bh ae 67 [a0,a1,a2] m (fn:=f67) (c:=aC f67) qiP rfl).trans (by kernel_rfl)
def KI (x8 aL:AV) (m:af):St:=⟨(aY (x8::aO (aH (aL::br (bI (aY (aP (aO [])))))))),m⟩
def zQ (x2 x3 x8 aE aL ka kd jS:AV) (m:af) (K:KT):OM:=b8 17 (ck (bo (bo (aC f17)))) 11 (aO (x2::x3::aP (x8::aH (aE::aH (aL::bI (aP (aO (aH (ka::kd::jS::br (aP [])))))))))) m K
def GJ (x2 x3 x8 aE aL ka kd jS:AV) (m:af):St:=⟨(aO (x2::x3::aP (x8::aH (aE::aH (aL::bI (aP (aO (aH (ka::kd::jS::br (aP [])))))))))),m⟩
def qm (x2 x3 x8 aE aL fw bS ka kd jS BS BT xr:AV) (m:af) (K:KT):OM:=b8 17 (uO (lS (lS (pU (bo (c2 (c2 (aC f17)))))))) 17 (aO (x2::x3::aP (x8::aH (aE::aH (aL::aO (fw::bS::bI (aO (aH (ka::kd::jS::bD (aP (aH (BS::BT::xr::bI (aY (aP [])))))))))))))) m K
def KJ (bW:AV) (m:af):St:=⟨(bD (aP (aO (bW::br (bI (aP [])))))),m⟩
def Cf (aL bW EX EY BN:AV) (m:af) (K:KT):OM:=b8 17 (ck (bo (bo (c2 (c2 (aC f17)))))) 28 (aY (aP (aL::aY (aH (bW::br (bD (aP (EX::EY::BN::aY (aP (aH [])))))))))) m K
abbrev qcs (K:KT):KT:=bF 17 (bo (bo (c2 (aC f17)))) K
abbrev qct (K:KT):KT:=bu 0 (qcs K)
abbrev Fm (K:KT):KT:=(qct K)
abbrev qcv (K:KT):KT:=bF 17 (lT (nr (bo (c2 (c2 (c2 (aC f17))))))) (oH 17 (ck (bo (bo (aC f17)))) 11 K)
abbrev qcw (K:KT):KT:=bu 1 (qcv K)
abbrev qcx (K:KT):KT:=bu 2 (qcw K)
abbrev xD (K:KT):KT:=(qcx K)
abbrev qcy (K:KT):KT:=bF 17 (bo (bo (c2 (c2 (c2 (aC f17)))))) K
abbrev qcz (K:KT):KT:=bu 4 (qcy K)
abbrev Fo (K:KT):KT:=(qcz K)
theorem T17 (a0 a1 a2:AV) (m:af):AC ae 17 [a0,a1,a2] m=(eR none none m a0).bind fun r1=>(ai none r1.2 r1.1).bind fun v2=>(AC ae 41 [v2,a1] r1.2).bind fun r3=>(ba r3.1 0).bind fun v4=>(ba r3.1 1).bind fun v5=>(ag .other .neq v5 (.int .i64 0)).bind fun v6=>aw v6 (some ((.tup [au,v5]),r3.2)) ((ai none r3.2 r1.1).bind fun v7=>(iD v7).bind fun v8=>(aS 0 v8).bind fun v9=>(ai none r3.2 v9).bind fun v10=>(aD (AP ae) none r3.2 63 [v10,a2]).bind fun jy=>(jg .not jy.1).bind fun v12=>aw v12 (some ((.tup [au,(.int .i64 1)]),jy.2)) ((aD (AP ae) none (aA none jy.2 (.mp (.int .i64) [])).2 64 []).bind fun fW=>(kO (.int .i64) fW.2 (.mref (aA none jy.2 .resv).1) a1 fW.1).bind fun m14=>(ai none m14 r1.1).bind fun bn=>(AC ae 65 [bn,a1] m14).bind fun gV=>(AC ae 66 [gV.1,(.fn 67 [r1.1])] gV.2).bind fun vD=>(aK false gV.1).bind fun fk=>zQ a2 r1.1 v4 (.mref (aA none jy.2 .resv).1) (.mref (aA none vD.2 .resv).1) gV.1 fk (.int .i64 0) (aA none vD.2 (.mp (.int .i64) [])).2 (Fm (aF ae.P f17.results.toList)))):=
(bh ae 17 [a0,a1,a2] m (fn:=f17) (c:=aC f17) qia rfl).trans (by kernel_rfl)
theorem QF (x2 x3 x8 aE aL ka kd jS:AV) (m:af) (K:KT):zQ x2 x3 x8 aE aL ka kd jS m K=(ag .other .lss jS kd).bind fun v1=>aw v1 ((aG none ka jS).bind fun v2=>(ai none m v2).bind fun v3=>(ai none (dG m 2) x3).bind fun v4=>(iD v4).bind fun v5=>(aS 1 v5).bind fun v6=>(ai none (dG m 2) v6).bind fun v7=>(aG (some 3) v7 v3).bind fun v8=>(ai (some 3) (dG m 2) v8).bind fun v9=>(oX (.int .i64) (.agg [(.bool false),au,au]) (dG m 2) aE v3).bind fun q10=>(aN (some 3) (aA (some (m.length+1)) (aA (some m.length) (dG m 2) (.obj true [(.int .i64 0),au,(.int .i64 0)])).2 (.obj true [(.bool false),au,au])).2 (.ptr (aA (some m.length) (dG m 2) .resv).1 0) v9).bind fun m11=>(aN (some 3) m11 (.ptr (aA (some (m.length+1)) (aA (some m.length) (dG m 2) (.obj true [(.int .i64 0),au,(.int .i64 0)])).2 .resv).1 0) q10.1).bind fun m12=>(aS 0 (.ptr (aA (some m.length) (dG m 2) .resv).1 0)).bind fun bp=>(ai none m12 bp).bind fun bj=>(ag .other .lss bj (.int .i64 0)).bind fun bn=>aw bn ((aS 2 (.ptr (aA (some m.length) (dG m 2) .resv).1 0)).bind fun bO=>(ai none m12 bO).bind fun bB=>(ai (some 3) m12 (.ptr (aA (some (m.length+1)) (aA (some m.length) (dG m 2) (.obj true [(.int .i64 0),au,(.int .i64 0)])).2 .resv).1 0)).bind fun fk=>(kO (.int .i64) m12 aL bB fk).bind fun m19=>(aS 1 (.ptr (aA (some m.length) (dG m 2) .resv).1 0)).bind fun v20=>(ai none m19 v20).bind fun v21=>(aK false v21).bind fun v22=>qm x2 x3 x8 aE aL (.ptr (aA (some m.length) (dG m 2) .resv).1 0) (.ptr (aA (some (m.length+1)) (aA (some m.length) (dG m 2) (.obj true [(.int .i64 0),au,(.int .i64 0)])).2 .resv).1 0) ka kd jS v21 v22 (.int .i64 0) m19 (xD K)) ((aS 1 (.ptr (aA (some m.length) (dG m 2) .resv).1 0)).bind fun v23=>(ai none m12 v23).bind fun v24=>(aK false v24).bind fun v25=>qm x2 x3 x8 aE aL (.ptr (aA (some m.length) (dG m 2) .resv).1 0) (.ptr (aA (some (m.length+1)) (aA (some m.length) (dG m 2) (.obj true [(.int .i64 0),au,(.int .i64 0)])).2 .resv).1 0) ka kd jS v24 v25 (.int .i64 0) m12 (xD K))) (K (.exit 0) (KI x8 aL m)):=
(b7 (bX _) _ _ _).trans (by kernel_rfl)
theorem Ki (x2 x3 x8 aE aL fw bS ka kd jS BS BT xr:AV) (m:af) (K:KT):qm x2 x3 x8 aE aL fw bS ka kd jS BS BT xr m K=(ag .other .lss xr BT).bind fun v1=>aw v1 ((aG none BS xr).bind fun v2=>(ai none m v2).bind fun v3=>(ai (some 3) (dG m 1) bS).bind fun v4=>(aS 0 fw).bind fun v5=>(ai none (dG m 1) v5).bind fun v6=>(aG none x2 v6).bind fun v7=>(ai none (dG m 1) v7).bind fun v8=>(aD (AP ae) (some m.length) (dG m 1) 70 [v8,xr]).bind fun r9=>(aD (AP ae) (some m.length) r9.2 69 [v4,r9.1]).bind fun iE=>(aN (some 3) (aA (some m.length) iE.2 (.obj true [(.bool false),au,au])).2 (.ptr (aA (some m.length) iE.2 .resv).1 0) iE.1).bind fun m11=>(oX (.int .i64) (.agg [(.bool false),au,au]) m11 aE v3).bind fun q12=>(ba (.tup [q12.1,.bool q12.2]) 0).bind fun bp=>(ba (.tup [q12.1,.bool q12.2]) 1).bind fun bj=>(aN (some 3) (aA none m11 (.obj true [(.bool false),au,au])).2 (.ptr (aA none m11 .resv).1 0) bp).bind fun m15=>aw bj ((ai (some 3) m15 (.ptr (aA none m11 .resv).1 0)).bind fun bO=>(ai (some 3) m15 (.ptr (aA (some m.length) iE.2 .resv).1 0)).bind fun bB=>(aD (AP ae) none m15 71 [bO,bB]).bind fun iJ=>(aN (some 3) iJ.2 (.ptr (aA (some m.length) iE.2 .resv).1 0) iJ.1).bind fun m19=>(ai (some 3) m19 (.ptr (aA (some m.length) iE.2 .resv).1 0)).bind fun v20=>(kO (.int .i64) m19 aE v3 v20).bind fun m21=>(ag .other .add xr (.int .i64 1)).bind fun v22=>qm x2 x3 x8 aE aL fw bS ka kd jS BS BT v22 m21 K) ((ai (some 3) m15 (.ptr (aA (some m.length) iE.2 .resv).1 0)).bind fun v23=>(kO (.int .i64) m15 aE v3 v23).bind fun m24=>(ag .other .add xr (.int .i64 1)).bind fun v25=>qm x2 x3 x8 aE aL fw bS ka kd jS BS BT v25 m24 K)) (K (.exit 2) (GJ x2 x3 x8 aE aL ka kd jS m)):=
(b7 (bX _) _ _ _).trans (by kernel_rfl)
theorem QG (aL bW EX EY BN:AV) (m:af) (K:KT):Cf aL bW EX EY BN m K=(ag .other .lss BN EY).bind fun v1=>aw v1 ((aG none EX BN).bind fun v2=>(ai none m v2).bind fun v3=>(oX (.int .i64) (.agg [(.bool false),au,au]) m aL v3).bind fun q4=>(fR (.agg [(.int .i64 0),(.bool false),au,au]) [(0,none,v3),(1,(some 3),q4.1)]).bind fun v5=>(fh (some 4) [v5]).bind fun v6=>(cg none false 46 (some 4) 64 m bW v6).bind fun r7=>(ag .other .add BN (.int .i64 1)).bind fun v8=>Cf aL r7.1 EX EY v8 r7.2 K) (K (.exit 4) (KJ bW m)):=
(b7 (bX _) _ _ _).trans (by kernel_rfl)
theorem qcu (x8 aL:AV) (m:af):Fm (aF ae.P f17.results.toList) (.exit 0) (KI x8 aL m)=(aK false x8).bind fun v1=>Cf aL au x8 v1 (.int .i64 0) m (Fo (aF ae.P f17.results.toList)):=by kernel_rfl
theorem P3 (x2 x3 x8 aE aL ka kd jS:AV) (m:af) (K:KT):xD K (.exit 2) (GJ x2 x3 x8 aE aL ka kd jS m)=(ag .other .add jS (.int .i64 1)).bind fun v1=>zQ x2 x3 x8 aE aL ka kd v1 m K:=by kernel_rfl
theorem qcA (bW:AV) (m:af):Fo (aF ae.P f17.results.toList) (.exit 4) (KJ bW m)=some ((.tup [bW,(.int .i64 0)]),m):=by kernel_rfl
end
end Go.Ab
namespace Go.Ab
noncomputable section
open Go.Proofs.Tryz
end
end Go.Ab
namespace Go.Ab.Pq
open Go.Proofs.Tryz
structure IL where
 z:Bool
 o:Own
 ns:List Int
def iA (n:Int):AV:=.int .i64 n
def IL.av (l:IL):AV:=.lst none l.z l.o (l.ns.map iA)
def IL.fr (l:IL):IL:=⟨l.z,l.o.fr,l.ns⟩
structure ND where
 var:Int
 kids:IL
 leaf:Int
def ND.av (n:ND):AV:=.agg [.int .i64 n.var,n.kids.av,.int .i64 n.leaf]
structure OL where
 z:Bool
 o:Own
 es:List IL
def OL.av (l:OL):AV:=.lst none l.z l.o (l.es.map IL.av)
def OL.fr (l:OL):OL:=⟨l.z,l.o.fr,l.es⟩
structure NL where
 sh:Sh
 z:Bool
 o:Own
 es:List ND
def NL.av (l:NL):AV:=.lst l.sh l.z l.o (l.es.map ND.av)
def NL.fr (l:NL):NL:=⟨l.sh,l.z,l.o.fr,l.es⟩
structure CV where
 odds:OL
 nodes:NL
 ws:LV
 leaf:Int
def CV.av (c:CV):AV:=.agg [c.odds.av,c.nodes.av,c.ws.av,.int .i64 c.leaf]
def CV.fr (c:CV):CV:=⟨c.odds.fr,c.nodes.fr,c.ws.fr,c.leaf⟩
theorem fz_il (l:IL):Fz l.av l.fr.av:=fun m=>qu none l.z l.o (l.ns.map iA) m 8
theorem fz_ol (l:OL):Fz l.av l.fr.av:=fun m=>qu none l.z l.o (l.es.map IL.av) m 8
theorem qky (l:NL):Fz l.av l.fr.av:=fun m=>qu l.sh l.z l.o (l.es.map ND.av) m 8
theorem fza_il (l:IL):∀ m k,bH m (k+1) l.av=some (l.fr.av,[]):=qu none l.z l.o (l.ns.map iA)
theorem fza_ol (l:OL):∀ m k,bH m (k+1) l.av=some (l.fr.av,[]):=qu none l.z l.o (l.es.map IL.av)
theorem qkF (l:NL):∀ m k,bH m (k+1) l.av=some (l.fr.av,[]):=qu l.sh l.z l.o (l.es.map ND.av)
theorem qkD (l:LV):∀ m k,bH m (k+1) l.av=some (l.fr.av,[]):=qu l.sh l.z l.o (l.es.map RV.av)
theorem qkE (n:ND):∀ m k,bH m (k+2) n.av=some (ND.av ⟨n.var,n.kids.fr,n.leaf⟩,[]):=by
 intro m k;have e:bH m (k+2) n.av=(fD (bH m (k+1)) [.int .i64 n.var,n.kids.av,.int .i64 n.leaf]).map fun r=>(.agg r.1,r.2):=rfl;rw[e];simp[fD,jV _ _ m k,fza_il n.kids m k,ND.av]
theorem qkC (c:CV):∀ m k,bH m (k+2) c.av=some (c.fr.av,[]):=by
 intro m k;have e:bH m (k+2) c.av=(fD (bH m (k+1)) [c.odds.av,c.nodes.av,c.ws.av,.int .i64 c.leaf]).map fun r=>(.agg r.1,r.2):=rfl;rw[e];simp[fD,jV _ _ m k,fza_ol _ m k,qkF _ m k,qkD _ m k,CV.av,CV.fr]
theorem qkx (n:ND):Fz n.av (ND.av ⟨n.var,n.kids.fr,n.leaf⟩):=fun m=>qkE n m 7
theorem Uh (c:CV):Fz c.av c.fr.av:=fun m=>qkC c m 7
theorem qB (l:IL):aK false l.av=some (.int .i64 l.ns.length):=by simp[IL.av,aK]
theorem len_ol (l:OL):aK false l.av=some (.int .i64 l.es.length):=by simp[OL.av,aK]
theorem D7 (l:NL):aK false l.av=some (.int .i64 l.es.length):=by simp[NL.av,aK]
theorem vq {l:IL} {k:Nat} {kk:IntKind} (hk:k < l.ns.length):aG none l.av (.int kk k)=some (.vptr [iA l.ns[k]]):=by
 simp[IL.av,aG,hk,iA,AV.cells]
theorem vr (m:af) (n:Int):ai none m (.vptr [iA n])=some (.int .i64 n):=rfl
theorem index_ol {l:OL} {k:Nat} {kk:IntKind} (hk:k < l.es.length):aG none l.av (.int kk k)=some (.vptr [l.es[k].av]):=by
 simp[OL.av,aG,hk,IL.av,AV.cells]
theorem load_ol (m:af) (n:IL):ai none m (.vptr [n.av])=some n.av:=rfl
theorem NF {l:NL} {k:Nat} {kk:IntKind} (hs:l.sh=some 3\/l.es=[]) (hk:k < l.es.length):aG (some 3) l.av (.int kk k)=some (.vptr (l.es[k].av).cells):=by
 have hs:l.sh=some 3:=hs.resolve_right (fun e=>by rw[e] at hk;simp at hk);simp[NL.av,aG,hs,hk]
theorem Wr (m:af) (n:ND):ai (some 3) m (.vptr n.av.cells)=some n.av:=rfl
theorem Ud (n:ND):aS 0 (.vptr n.av.cells)=some (.vptr n.av.cells):=rfl
theorem Ws (m:af) (n:ND):ai none m (.vptr n.av.cells)=some (.int .i64 n.var):=rfl
def cN (n:ND):Option Ent:=some (.obj true [.int .i64 n.var,n.kids.av,.int .i64 n.leaf])
def y2:IL:=⟨true,.full,[]⟩
def zN:ND:=⟨0,y2,0⟩
theorem nG (m:af):aA none m (.obj true [.int .i64 0,.lst none true .full [],.int .i64 0])=(m.length,m++[cN zN]):=rfl
theorem y4 {m:af} {k:Nat} {x:ND} (h:m[k]?=some (cN x)):ai none m (.ptr k 0)=some (.int .i64 x.var):=by simp[ai,pJ h,ki]
theorem IJ {m:af} {k:Nat} {x:ND} (h:m[k]?=some (cN x)):ai none m (.ptr k 1)=some x.kids.av:=by simp[ai,pJ h,ki]
theorem Oh {m:af} {k:Nat} {x:ND} (h:m[k]?=some (cN x)):ai none m (.ptr k 2)=some (.int .i64 x.leaf):=by simp[ai,pJ h,ki]
theorem qm0 {m:af} {k:Nat} {x:ND} (h:m[k]?=some (cN x)):ai (some 3) m (.ptr k 0)=some x.av:=by simp[ai,pJ h,ki,ND.av]
theorem Xj {m:af} {x y:ND}:aN (some 3) (m++[cN x]) (.ptr m.length 0) y.av=some (m++[cN y]):=by
 simp only[aN,pJ (Mm (m:=m) (e:=cN x)),aa];simp[ND.av,IL.av,Sh.size,cZ,ff,bC,AV.cells,cN]
theorem qjo (m:af) (x:ND):eR none (some 3) m x.av=some (.ptr m.length 0,m++[cN x]):=rfl
def cC (c:CV):Option Ent:=some (.obj true [c.odds.av,c.nodes.av,c.ws.av,.int .i64 c.leaf])
def zC:CV:=⟨⟨true,.full,[]⟩,⟨none,true,.full,[]⟩,Xb,0⟩
theorem Tg (m:af) (x:CV):eR none (some 4) m x.av=some (.ptr m.length 0,m++[cC x]):=rfl
theorem qmZ (m:af):aA none m (.obj true [.lst none true .full [],.lst none true .full [],.lst none true .full [],.int .i64 0])=(m.length,m++[cC zC]):=rfl
theorem Hq {m:af} {k:Nat} {x:CV} (h:m[k]?=some (cC x)):ai none m (.ptr k 0)=some x.odds.av:=by simp[ai,pJ h,ki]
theorem Hr {m:af} {k:Nat} {x:CV} (h:m[k]?=some (cC x)):ai none m (.ptr k 1)=some x.nodes.av:=by simp[ai,pJ h,ki]
theorem As {m:af} {k:Nat} {x:CV} (h:m[k]?=some (cC x)):ai none m (.ptr k 2)=some x.ws.av:=by simp[ai,pJ h,ki]
theorem LH {m:af} {k:Nat} {x:CV} (h:m[k]?=some (cC x)):ai none m (.ptr k 3)=some (.int .i64 x.leaf):=by simp[ai,pJ h,ki]
theorem TA {m:af} {k:Nat} {x:CV} (h:m[k]?=some (cC x)):ai (some 4) m (.ptr k 0)=some x.av:=by simp[ai,pJ h,ki,CV.av]
theorem qjX {m:af} {k:Nat} {x y:CV} (h:m[k]?=some (cC x)):aN (some 4) m (.ptr k 0) y.av=some (m.set k (cC y)):=by
 simp only[aN,pJ h,aa]
 rfl
theorem Uc (n:Nat):aS 3 (.ptr n 0)=some (.ptr n 3):=rfl
theorem V94 (n:Int):AP ae 94 [.int .i64 n]=some (.bool (decide (0<=n/\n<=2147483647))):=by
 refine cW _ _ (px _) rfl (m:=[]) ?_;rw[RY,kF,aa,az]
 by_cases h:n≥0
 ·rw[an h,sg,aa];congr 3;exact jD.2 (by omega)
 ·rw[aj h];congr 3;exact (dk (by omega)).symm
def qE (o:Int):Bool:=decide (0<=o/\o<=1000)
def rowB (l:IL) (a:Int):Bool:=l.ns.all qE && (decide ((l.ns.length:Int)=a) && decide (l.ns.sum≠0))
def oddsB (arms:IL) (L:OL):Bool:=decide (L.es.length=arms.ns.length) && (L.es.zip arms.ns).all fun p=>rowB p.1 p.2
theorem oddB_iff {o:Int}:qE o=true↔0<=o/\o<=1000:=by unfold qE;exact wk
theorem He (l:IL) (hl:l.ns.length<=64) (x0 x5 x6 fw bS eZ:AV) (m:af) (K:KT):∀ (j i:Nat) (s:Int),i+j=l.ns.length->0<=s->s<=1000 * i ->
  Gl x0 x5 x6 (.int .i64 s) fw bS eZ l.av (.int .i64 l.ns.length) (.int .i64 i) m K=if (l.ns.drop i).all qE then K (.exit 2) (K2 x0 x5 x6 (.int .i64 (s+(l.ns.drop i).sum)) fw bS eZ m) else K .ret (GV (.bool false) m)
 | 0,i,s,h,h0,h1=>by
  rw[Q2,dp,aa,az,aj (by omega),jA (by omega),List.sum_nil,Int.add_zero];rfl
 | j+1,i,s,h,h0,h1=>by
  have hi:i < l.ns.length:=by omega
  rw[Q2,dp,aa,az,an hi,vq hi,aa,vr,aa,bg,aa,az,kP hi,nX,mR]
  by_cases c1:l.ns[i] < 0
  ·rw[an c1,show qE l.ns[i]=false from dk (by omega)];rfl
  ·rw[aj c1,hJ,aa,az]
   by_cases c2:l.ns[i] > 1000
   ·rw[an c2,show qE l.ns[i]=false from dk (by omega)];rfl
   ·have ih:=He l hl x0 x5 x6 fw bS eZ m K j (i+1) (s+l.ns[i]) (by omega) (by omega) (by omega);rw[aj c2,kQ,iK (by omega) (by omega),aa,cG (by omega),aa,ih,show qE l.ns[i]=true from eT (by omega),il,Int.add_assoc]
theorem SH (arms:IL) (L:OL) (hlen:L.es.length=arms.ns.length) (h64:∀ l∈L.es,l.ns.length<=64) (oN:L.es.length<=40) (m:af) (K:KT):∀ j i:Nat,i+j=L.es.length ->
  Gk arms.av L.av (.int .i64 L.es.length) (.int .i64 i) m K=if ((L.es.zip arms.ns).drop i).all (fun p=>rowB p.1 p.2) then K (.exit 0) (K1 m) else K .ret (CK (.bool false) m)
 | 0,i,h=>by
  rw[Q1,dp,aa,az,aj (by omega),jA (by rw[Cw];omega)];rfl
 | j+1,i,h=>by
  have hi:i < L.es.length:=by omega
  have hz:i < (L.es.zip arms.ns).length:=by rw[Cw];omega
  have ih:=SH arms L hlen h64 oN m K j (i+1) (by omega);have hx:=He L.es[i] (h64 _ (bM hi)) arms.av (.int .i64 i) L.es[i].av L.av (.int .i64 L.es.length) (.int .i64 i) m (FB K) L.es[i].ns.length 0 0 (by omega) (by omega) (by omega);rw[jT,Int.zero_add,show (((0:Nat):Int))=(0:Int) from rfl] at hx;rw[Q1,dp,aa,az,an hi,index_ol hi,aa,load_ol,aa,qB,aa,hx,kP hz,nX,List.getElem_zip];dsimp only;unfold rowB
  by_cases c1:L.es[i].ns.all qE=true
  ·rw[an c1,qd9,qB,aa,vq (by omega),aa,vr,aa,iY,aa,az,c1,il]
   by_cases c2:(L.es[i].ns.length:Int)=arms.ns[i]
   ·rw[aj (by omega),ir,aa,az,eT c2,il]
    by_cases c3:L.es[i].ns.sum=0
    ·rw[an c3,dk (by omega)];rfl
    ·rw[aj c3,eT c3,il,cG (by omega),aa,ih];rfl
   ·rw[an c2,dk c2];rfl
  ·rw[aj c1,qd8,xy.2 c1];rfl
theorem V63 (arms:IL) (L:OL) (h64:∀ l∈L.es,l.ns.length<=64) (oN:L.es.length<=40):AP ae 63 [arms.av,L.av]=some (.bool (oddsB arms L)):=by
 refine cW _ _ (px _) rfl (m:=[]) ?_;unfold oddsB;rw[T63,len_ol,aa,qB,aa,iY,aa,az]
 by_cases h:L.es.length=arms.ns.length
 ·rw[aj (by omega),aa,show ((0:Int))=((0:Nat):Int) from rfl,SH arms L h h64 oN [] _ L.es.length 0 (by omega),jT,eT h,il]
  by_cases h2:(L.es.zip arms.ns).all (fun p=>rowB p.1 p.2)=true
  ·rw[an h2,h2,qd3]
  ·rw[aj h2,xy.2 h2,qd2]
 ·rw[an (by omega),dk h];rfl
theorem SO (l:IL) (hl:l.ns.length<=64) (x0 x5 x6 fw bS eZ:AV) (m:af) (K:KT):∀ (j i:Nat) (s:Int),i+j=l.ns.length->0<=s->s<=1000 * i ->
  Gf x0 x5 x6 (.int .i64 s) fw bS eZ l.av (.int .i64 l.ns.length) (.int .i64 i) m K=if (l.ns.drop i).all qE then K (.exit 2) (KR x0 x5 x6 (.int .i64 (s+(l.ns.drop i).sum)) fw bS eZ m) else K .ret (GQ (.bool false) m)
 | 0,i,s,h,h0,h1=>by
  rw[QN,dp,aa,az,aj (by omega),jA (by omega),List.sum_nil,Int.add_zero];rfl
 | j+1,i,s,h,h0,h1=>by
  have hi:i < l.ns.length:=by omega
  rw[QN,dp,aa,az,an hi,vq hi,aa,vr,aa,bg,aa,az,kP hi,nX,mR]
  by_cases c1:l.ns[i] < 0
  ·rw[an c1,show qE l.ns[i]=false from dk (by omega)];rfl
  ·rw[aj c1,hJ,aa,az]
   by_cases c2:l.ns[i] > 1000
   ·rw[an c2,show qE l.ns[i]=false from dk (by omega)];rfl
   ·have ih:=SO l hl x0 x5 x6 fw bS eZ m K j (i+1) (s+l.ns[i]) (by omega) (by omega) (by omega);rw[aj c2,kQ,iK (by omega) (by omega),aa,cG (by omega),aa,ih,show qE l.ns[i]=true from eT (by omega),il,Int.add_assoc]
theorem Sz (arms:IL) (L:OL) (hlen:L.es.length=arms.ns.length) (h64:∀ l∈L.es,l.ns.length<=64) (oN:L.es.length<=40) (m:af) (K:KT):∀ j i:Nat,i+j=L.es.length ->
  Ge arms.av L.av (.int .i64 L.es.length) (.int .i64 i) m K=if ((L.es.zip arms.ns).drop i).all (fun p=>rowB p.1 p.2) then K (.exit 0) (KQ m) else K .ret (CJ (.bool false) m)
 | 0,i,h=>by
  rw[QM,dp,aa,az,aj (by omega),jA (by rw[Cw];omega)];rfl
 | j+1,i,h=>by
  have hi:i < L.es.length:=by omega
  have hz:i < (L.es.zip arms.ns).length:=by rw[Cw];omega
  have ih:=Sz arms L hlen h64 oN m K j (i+1) (by omega);have hx:=SO L.es[i] (h64 _ (bM hi)) arms.av (.int .i64 i) L.es[i].av L.av (.int .i64 L.es.length) (.int .i64 i) m (Fq K) L.es[i].ns.length 0 0 (by omega) (by omega) (by omega);rw[jT,Int.zero_add,show (((0:Nat):Int))=(0:Int) from rfl] at hx;rw[QM,dp,aa,az,an hi,index_ol hi,aa,load_ol,aa,qB,aa,hx,kP hz,nX,List.getElem_zip];dsimp only;unfold rowB
  by_cases c1:L.es[i].ns.all qE=true
  ·rw[an c1,qdg,qB,aa,vq (by omega),aa,vr,aa,iY,aa,az,c1,il]
   by_cases c2:(L.es[i].ns.length:Int)=arms.ns[i]
   ·rw[aj (by omega),ir,aa,az,eT c2,il]
    by_cases c3:L.es[i].ns.sum=0
    ·rw[an c3,dk (by omega)];rfl
    ·rw[aj c3,eT c3,il,cG (by omega),aa,ih];rfl
   ·rw[an c2,dk c2];rfl
  ·rw[aj c1,qdf,xy.2 c1];rfl
theorem V18 (arms:IL) (L:OL) (h64:∀ l∈L.es,l.ns.length<=64) (oN:L.es.length<=40):AP ae 18 [arms.av,L.av]=some (.bool (oddsB arms L)):=by
 refine cW _ _ (px _) rfl (m:=[]) ?_;unfold oddsB;rw[T18,len_ol,aa,qB,aa,iY,aa,az]
 by_cases h:L.es.length=arms.ns.length
 ·rw[aj (by omega),aa,show ((0:Int))=((0:Nat):Int) from rfl,Sz arms L h h64 oN [] _ L.es.length 0 (by omega),jT,eT h,il]
  by_cases h2:(L.es.zip arms.ns).all (fun p=>rowB p.1 p.2)=true
  ·rw[an h2,h2,qda]
  ·rw[aj h2,xy.2 h2,qc9]
 ·rw[an (by omega),dk h];rfl
end Go.Ab.Pq
namespace Go.Ab.Pq
open Go.Proofs.Tryz
def uI (f:Nat->Bool):Nat->Nat->Bool
 | 0,_=>true
 | j+1,i=>f i && uI f j (i+1)
theorem allF_iff {f:Nat->Bool}:∀ {j i:Nat},uI f j i=true↔∀ k,i<=k->k < i+j->f k=true
 | 0,i=>by
  constructor
  ·intro _ k h1 h2;omega
  ·intro _;rfl
 | j+1,i=>by
  rw[uI,bT,allF_iff (j:=j)]
  constructor
  ·rintro ⟨h1,h2⟩ k h3 h4
   by_cases h:k=i
   ·rw[h];exact h1
   ·exact h2 k (by omega) (by omega)
  ·intro h;exact ⟨h i (aR _) (by omega),fun k h1 h2=>h k (by omega) (by omega)⟩
def varAt (ns:List ND) (k:Nat):Int:=(ns.map ND.var).getD k 0
def kidB (ns:List ND) (i:Nat) (v k:Int):Bool:=decide (0<=k/\k < i) && (decide (varAt ns k.toNat < 0) || decide (v < varAt ns k.toNat))
def nodeB (arms:IL) (ns:List ND) (i:Nat) (n:ND):Bool:=
 if n.var=-1 then decide (n.kids.ns.length=0/\0<=n.leaf/\n.leaf<=2147483647)
 else decide (0<=n.var/\n.var < arms.ns.length/\n.leaf=0/\(n.kids.ns.length:Int)=arms.ns.getD n.var.toNat 0) && n.kids.ns.all (kidB ns i n.var)
def nodesB (arms:IL) (ns:List ND):Bool:=decide (0 < ns.length) && uI (fun i=>nodeB arms ns i (ns.getD i zN)) ns.length 0
theorem Pz {ns:List ND} {k:Nat} (h:k < ns.length):varAt ns k=ns[k].var:=by
 unfold varAt;rw[aT,n0,bA h];rfl
theorem Mk {ns:List ND} {k:Nat} (h:k < ns.length):ns.getD k zN=ns[k]:=by
 rw[aT,bA h];rfl
theorem Xc {arms:IL} {ns:List ND} {i:Nat} {n:ND} (h:nodeB arms ns i n=true):n.var=-1\/0<=n.var:=by
 unfold nodeB at h
 by_cases c:n.var=-1
 ·exact .inl c
 ·rw[aj c,bT,wk] at h;exact .inr h.1.1
theorem qnE {m:af} {d:Option Nat} {g:Nat} (a:Int):aD (AP ae) d m g [.int .i64 a]=(AP ae g [.int .i64 a]).map fun v=>(v,m):=cw (gu _ a)
theorem SN (L:NL) (hs:L.sh=some 3\/L.es=[]) (i:Nat) (hi:i<=L.es.length) (hp:∀ k,k < i->varAt L.es k=-1\/0<=varAt L.es k) (n:ND) (b:Nat) (m:af) (hb:m[b]?=some (cN n)) (hk:n.kids.ns.length<=64) (x0 x9 aE aW:AV) (K:KT):∀ j c:Nat,c+j=n.kids.ns.length ->
  xE x0 L.av (.int .i64 i) (.ptr b 0) x9 aE aW n.kids.av (.int .i64 n.kids.ns.length) (.int .i64 c) m K=if (n.kids.ns.drop c).all (kidB L.es i n.var) then K (.exit 2) (Gz x0 L.av x9 aE aW m) else K .ret (CH (.bool false) m)
 | 0,c,h=>by
  rw[FF,dp,aa,az,aj (by omega),jA (by omega)];rfl
 | j+1,c,h=>by
  have hc:c < n.kids.ns.length:=by omega
  have ih:=SN L hs i hi hp n b m hb hk x0 x9 aE aW K j (c+1) (by omega);rw[FF,dp,aa,az,an hc,vq hc,aa,vr,aa,bg,aa,az,kP hc,nX];generalize n.kids.ns[c]=k;unfold kidB
  by_cases c1:k < 0
  ·rw[an c1,dk (by omega:¬ (0<=k/\k < i))];rfl
  ·rw[aj c1,kF,aa,az]
   by_cases c2:k≥i
   ·rw[an c2,dk (by omega:¬ (0<=k/\k < i))];rfl
   ·obtain ⟨q,rfl⟩:=nW (by omega:0<=k);have hq:q < L.es.length:=by omega
    have fS:=hp q (by omega);rw[Pz hq] at fS;rw[aj c2,NF hs hq,aa,Ud,aa,Ws,aa,kF,aa,az,eT (by omega:(0:Int)<=(q:Int)/\(q:Int) < i),il,cK,Pz hq]
    by_cases c3:L.es[q].var≥0
    ·rw[an c3,aa,Ud,aa,Ws,aa,cL,aa,y4 hb,aa,sg,aa,az,dk (by omega:¬ L.es[q].var < 0),zE]
     by_cases c4:L.es[q].var<=n.var
     ·rw[an c4,dk (by omega)];rfl
     ·rw[aj c4,cG (by omega),aa,ih,eT (by omega),il];rfl
    ·rw[aj c3,cG (by omega),aa,ih,eT (by omega:L.es[q].var < 0),Bool.true_or,il];rfl
theorem Sv (arms:IL) (ha:∀ a∈arms.ns,a<=64) (L:NL) (hs:L.sh=some 3\/L.es=[]) (hL:L.es.length<=4000) (K:KT):∀ (j i:Nat) (m:af),i+j=L.es.length->(∀ k,k < i->varAt L.es k=-1\/0<=varAt L.es k) ->
  ∃ m',uu arms.av L.av L.av (.int .i64 L.es.length) (.int .i64 i) m K=if uI (fun i=>nodeB arms L.es i (L.es.getD i zN)) j i then K (.exit 0) (GB L.av m') else K .ret (tn (.bool false) m')
 | 0,i,m,h,hp=>⟨m,by rw[FG,dp,aa,az,aj (by omega)];rfl⟩
 | j+1,i,m,h,hp=>by
  have hi:i < L.es.length:=by omega
  have nx:nodeB arms L.es i L.es[i]=true->∃ m',uu arms.av L.av L.av (.int .i64 L.es.length) (.int .i64 ((i+1:Nat):Int)) (m++[cN L.es[i]]) K=if uI (fun i=>nodeB arms L.es i (L.es.getD i zN)) j (i+1) then K (.exit 0) (GB L.av m') else K .ret (tn (.bool false) m'):=by
   intro hn;refine Sv arms ha L hs hL K j (i+1) _ (by omega) (fun k hk=>?_)
   by_cases c:k=i
   ·rw[c,Pz hi];exact Xc hn
   ·exact hp k (by omega)
  rw[uI,Mk hi,FG,dp,aa,az,an hi,NF hs hi,aa,Wr,aa];simp only[nG,cH];rw[Xj,aa];have hb:(m++[cN L.es[i]])[m.length]?=some (cN L.es[i]):=Mm;have hX:=fun (hk:L.es[i].kids.ns.length<=64) (K:KT)=>SN L hs i (by omega) hp L.es[i] m.length _ hb hk arms.av L.av (.int .i64 L.es.length) (.int .i64 i) K L.es[i].kids.ns.length 0 (by omega);rw[jT] at hX;generalize hne:L.es[i]=n at *;simp only[cL,cM,cJ];rw[aa,y4 hb,aa,ir,aa,az]
  by_cases c1:n.var=-1
  ·rw[an c1,aa,IJ hb,aa,qB,aa,hJ,aa,az];have e1:nodeB arms L.es i n=decide (n.kids.ns.length=0/\0<=n.leaf/\n.leaf<=2147483647):=by unfold nodeB;rw[an c1]
   by_cases c2:n.kids.ns.length=0
   ·rw[aj (by omega),aa,Oh hb,aa];rw[qnE,V94,aQ,aa,cY,aa]
    by_cases c3:0<=n.leaf/\n.leaf<=2147483647
    ·obtain ⟨m',hm⟩:=nx (e1.trans (eT ⟨c2,c3⟩));refine ⟨m',?_⟩;rw[eT c3,jN,ng,cG (by omega),aa,hm,e1,eT ⟨c2,c3⟩,il]
    ·refine ⟨m++[cN n],?_⟩;rw[dk c3,nT,nE,e1,dk (fun h=>c3 h.2)];rfl
   ·refine ⟨m++[cN n],?_⟩;rw[an (by omega),e1,dk (by omega)];rfl
  ·have e1:nodeB arms L.es i n=(decide (0<=n.var/\n.var < arms.ns.length/\n.leaf=0/\(n.kids.ns.length:Int)=arms.ns.getD n.var.toNat 0) && n.kids.ns.all (kidB L.es i n.var)):=by unfold nodeB;rw[aj c1]
   rw[aj c1,aa,y4 hb,aa,bg,aa,az]
   by_cases c2:n.var < 0
   ·refine ⟨m++[cN n],?_⟩;rw[an c2,e1,dk (by omega)];rfl
   ·rw[aj c2,aa,y4 hb,aa,qB,aa,kF,aa,az]
    by_cases c3:n.var≥(arms.ns.length:Nat)
    ·refine ⟨m++[cN n],?_⟩;rw[an c3,e1,dk (by omega)];rfl
    ·rw[aj c3,aa,Oh hb,aa,iY,aa,az]
     by_cases c4:n.leaf=0
     ·obtain ⟨v,hv⟩:=nW (by omega:0<=n.var);have fT:v < arms.ns.length:=by omega
      have js:arms.ns.getD n.var.toNat 0=arms.ns[v]:=by
       rw[hv,cK,aT,bA fT];rfl
      rw[aj (by omega),aa,IJ hb,aa,qB,aa,aa,y4 hb,aa,hv,vq fT,aa,vr,aa,iY,aa,az];rw[js] at e1
      by_cases c5:(n.kids.ns.length:Int)=arms.ns[v]
      ·have:=ha _ (bM fT);rw[aj (by omega),aa,IJ hb,aa,qB,aa,show ((0:Int))=((0:Nat):Int) from rfl,hX (by omega),e1,eT (by omega),il];rw[eT (by omega:0<=n.var/\n.var < arms.ns.length/\n.leaf=0/\(n.kids.ns.length:Int)=arms.ns[v]),il] at e1
       by_cases c6:n.kids.ns.all (kidB L.es i n.var)=true
       ·obtain ⟨m',hm⟩:=nx (e1.trans c6);refine ⟨m',?_⟩;rw[an c6,PU,cG (by omega),aa,hm,c6,il]
       ·refine ⟨m++[cN n],?_⟩;rw[aj c6,Fb,xy.2 c6];rfl
      ·refine ⟨m++[cN n],?_⟩;rw[an (by omega),e1,dk (by omega)];rfl
     ·refine ⟨m++[cN n],?_⟩;rw[an (by omega),e1,dk (by omega)];rfl
theorem qfY (arms:IL) (ha:∀ a∈arms.ns,a<=64) (L:NL) (hs:L.sh=some 3\/L.es=[]) (hL:L.es.length<=4000):AP ae 107 [arms.av,L.av]=some (.bool (nodesB arms L.es)):=by
 obtain ⟨m',h⟩:=Sv arms ha L hs hL (tf (aF ae.P f107.results.toList)) L.es.length 0 [] (by omega) (fun k hk=>by omega);refine cW _ _ (px _) rfl (m:=m') ?_;unfold nodesB;rw[RE,D7,aa,show ((0:Int))=((0:Nat):Int) from rfl,h]
 by_cases h2:uI (fun i=>nodeB arms L.es i (L.es.getD i zN)) L.es.length 0=true
 ·rw[an h2,h2,PV,D7,aa,hJ,aa,Bool.and_true];congr 3;exact jD.2 (by omega)
 ·rw[aj h2,xy.2 h2,tg,Bool.and_false]
end Go.Ab.Pq
namespace Go.Ab.Pq
open Go.Proofs.Tryz
theorem VM {R:Type} (b:Bool) (x y:Option R):aw (.bool (!b)) x y=aw (.bool b) y x:=by cases b<;>rfl
theorem qf8 {r:RV} {k:Nat} (h:ROk k r):AP ae 151 [r.av]=some (.bool (!kN r)):=by
 refine cW _ _ (px _) rfl (m:=[cR r]) ?_;rw[qfB,cX,aa];simp only[aM,bE];rw[dd,aa,c9,qf9 h.fr,aQ,aa,cY,aa];rfl
theorem qjA {fid g:Nat} {vs:List AV} {m:af} {d:Option Nat} {K:AV->af->OM} (hi:ae.inl fid g=false) (h1:((ae.lib g).isNone && (ae.libm g).isNone)=true:=by rfl):jU ae fid (AP ae) (AC ae) d g vs m K=(aD (AP ae) d m g vs).bind fun r=>K r.1 r.2:=by
 have h5:ae.lib g=none/\ae.libm g=none:=by
  rw[bT] at h1;exact ⟨Option.isNone_iff_eq_none.1 h1.1,Option.isNone_iff_eq_none.1 h1.2⟩
 unfold jU;rw[h5.2,h5.1,hi]
theorem SA {l:LV} {k:Nat} (hl:LOk k l) (hlen:l.es.length < 2 ^ 40) (m:af) (K:KT):∀ j i:Nat,i+j=l.es.length ->
  ∃ r:Nat,zS l.av (.fn 151 []) (.int .i64 l.es.length) (.int .i64 i) m K=if (l.es.drop i).all kN then K (.exit 0) (CE m) else K .ret (Aj (.int .i64 r) m)
 | 0,i,h=>⟨0,by rw[QH,dp,aa,az,aj (by omega),jA (by omega)];rfl⟩
 | j+1,i,h=>by
  have hi:i < l.es.length:=by omega
  have hr:=hl.ok _ (bM hi);obtain ⟨r,ih⟩:=SA hl hlen m K j (i+1) (by omega)
  have pre:∀ r',(zS l.av (.fn 151 []) (.int .i64 l.es.length) (.int .i64 i) m K=if (l.es.drop i).all kN then K (.exit 0) (CE m) else K .ret (Aj (.int .i64 r') m))↔(aw (.bool (!kN l.es[i])) (K .ret (Aj (.int .i64 i) m)) (zS l.av (.fn 151 []) (.int .i64 l.es.length) (.int .i64 ((i+1:Nat):Int)) m K)=if kN l.es[i] && (l.es.drop (i+1)).all kN then K (.exit 0) (CE m) else K .ret (Aj (.int .i64 r') m)):=by
   intro r';rw[QH,dp,aa,az,an hi,Io hl hi,aa,Ix,aa,show lp (.fn 151 [])=some (151,[]) from rfl,aa,qjA rfl,show ([l.es[i].av]++([]:List AV))=[l.es[i].av] from rfl,c9,qf8 hr.fr,aQ,aa,cG (by omega),aa,kP hi,nX];exact Iff.rfl
  cases hb:kN l.es[i] with
  | false=>
   refine ⟨i,(pre i).2 ?_⟩;rw[hb];rfl
  | true=>
   refine ⟨r,(pre r).2 ?_⟩;rw[hb,jN,ng,ih,il]
theorem qf7 {l:LV} {k:Nat} (hl:LOk k l) (hlen:l.es.length < 2 ^ 40):AP ae 150 [l.av,.fn 151 []]=some (.bool (!l.es.all kN)):=by
 have h65:∃ n:Int,AP ae 180 [l.fr.av,.fn 151 []]=some (.int .i64 n)/\decide (n≥0) = !l.es.all kN:=by
  obtain ⟨r,h⟩:=SA hl.fr' hlen [] (Fp (aF ae.P f180.results.toList)) l.fr.es.length 0 (by omega);rw[jT] at h
  by_cases c:l.fr.es.all kN=true
  ·refine ⟨-1,cW _ _ (gu _ _) rfl (m:=[]) ?_,?_⟩
   ·rw[RP,Iv,aa,show ((0:Int))=((0:Nat):Int) from rfl,h,an c,qcE]
   ·have c:l.es.all kN=true:=c;rw[c];rfl
  ·refine ⟨r,cW _ _ (gu _ _) rfl (m:=[]) ?_,?_⟩
   ·rw[RP,Iv,aa,show ((0:Int))=((0:Nat):Int) from rfl,h,aj c,qcD]
   ·have c:¬ l.es.all kN=true:=c;rw[xy.2 c,eT (by omega)];rfl
 obtain ⟨n,h1,h2⟩:=h65;refine cW _ _ (px _) rfl (m:=[]) ?_;rw[qfA,fP (Mi l) (fun _=>rfl),h1,aQ,aa,kF,aa,h2]
def rT (m:af) (e:Nat) (es:List AV):AV:=if es=[] then .lst none true .full [] else .lst none false (.tok m.length e) es
def mT (m:af) (es:List AV):af:=if es=[] then m else nQ m es.length
theorem qhc {m:af} {e b:Nat} {es:List AV} {z:Bool} {o:Own} {y:AV} (h:(es.length+1) * b<=gL):cg none false e none b (mT m es) (rT m e es) (.lst none z o [y])=some (rT m e (es++[y]),mT m (es++[y])):=by
 cases es with
 | nil=>
  simp[cg,rT,mT,nQ,aA,Sh.size,h];simpa using h
 | cons a es=>
  have:=C0 (e:=e) (b:=b) (m:=m) (es:=a::es) (z:=z) (o:=o) (y:=y) h;simp only[rT,mT,aj (List.cons_ne_nil a es)];rw[this];simp
theorem qkA (m:af) (e:Nat) (es:List AV):Fz (rT m e es) (if es=[] then .lst none true .full [] else .lst none false .no es):=by
 intro m';unfold rT;split<;>rfl
def lens (L:OL):List Int:=L.es.map fun l=>(l.ns.length:Int)
def armsI (ns:List Int):IL:=if ns=[] then ⟨true,.full,[]⟩ else ⟨false,.no,ns⟩
theorem armsI_ns (ns:List Int):(armsI ns).ns=ns:=by
 unfold armsI
 split
 ·rename_i h;rw[h]
 ·rfl
theorem Ui (m:af) (e:Nat) (ns:List Int):Fz (rT m e (ns.map iA)) (armsI ns).av:=by
 have:=qkA m e (ns.map iA);unfold armsI
 cases ns with
 | nil=>exact this
 | cons a l=>exact this
theorem Be (L:OL):(lens L).length=L.es.length:=by simp[lens]
theorem lens_get {L:OL} {i:Nat} (h:i < L.es.length):(lens L)[i]'(by rw[Be];exact h)=(L.es[i].ns.length:Int):=by simp[lens]
theorem qmu {L:OL} {i:Nat} (h:i < L.es.length):((lens L).take (i+1)).map iA=((lens L).take i).map iA++[.int .i64 (L.es[i].ns.length:Int)]:=by
 rw[n6 (by rw[Be];exact h),kX,lens_get h];rfl
theorem qo9 (L:OL) {i:Nat} (h:i<=L.es.length):(((lens L).take i).map iA).length=i:=by
 rw[bU,ji,Be];omega
def Bb (l:IL):Bool:=decide (1<=l.ns.length/\l.ns.length<=64)
theorem Sx (x1:AV) (m:af) (L:OL) (oN:L.es.length<=40) (K:KT):∀ j i:Nat,i+j=L.es.length ->
  ∃ m',FI x1 (rT m 3 (((lens L).take i).map iA)) L.av (.int .i64 L.es.length) (.int .i64 i) (mT m (((lens L).take i).map iA)) K=if (L.es.drop i).all Bb then K (.exit 0) (Kq x1 (rT m 3 ((lens L).map iA)) (mT m ((lens L).map iA))) else K .ret (GN (.bool false) m')
 | 0,i,h=>⟨m,by
  rw[Qb,dp,aa,az,aj (by omega),kY (by rw[Be];omega),jA (by omega)];rfl⟩
 | j+1,i,h=>by
  have hi:i < L.es.length:=by omega
  obtain ⟨m',ih⟩:=Sx x1 m L oN K j (i+1) (by omega);rw[qmu hi] at ih;rw[Qb,dp,aa,az,an hi,index_ol hi,aa,load_ol,aa,qB,aa,bg,aa,az,kP hi,nX];unfold Bb
  by_cases c1:(L.es[i].ns.length:Int) < 1
  ·refine ⟨mT m (((lens L).take i).map iA),?_⟩;rw[an c1,dk (by omega)];rfl
  ·rw[aj c1,aa,hJ,aa,az]
   by_cases c2:(L.es[i].ns.length:Int) > 64
   ·refine ⟨mT m (((lens L).take i).map iA),?_⟩;rw[an c2,dk (by omega)];rfl
   ·refine ⟨m',?_⟩;rw[aj c2,aa,rh,aa,qhc (by rw[qo9 L (by omega)];simp only[gL];omega),aa,cG (by omega),aa,eT (by omega),il];exact ih
end Go.Ab.Pq
namespace Go.Ab.Pq
open Go.Proofs.Tryz
structure COk (k:Nat) (c:CV):Prop where
 odds:c.odds.es.length<=40
 nsh:c.nodes.sh=some 3\/c.nodes.es=[]
 nlen:c.nodes.es.length<=4000
 ws:LOk k c.ws
 wlen:c.ws.es.length<=4000
theorem COk.fr {k:Nat} {c:CV} (h:COk k c):COk k c.fr:=⟨h.odds,h.nsh,h.nlen,h.ws.fr',h.wlen⟩
def shapedB (c:CV):Bool:=decide (c.odds.es.length<=16/\0<=c.leaf/\c.leaf<=2147483647/\c.ws.es.length=c.nodes.es.length) && (c.odds.es.all Bb && (oddsB (armsI (lens c.odds)) c.odds && (nodesB (armsI (lens c.odds)) c.nodes.es && c.ws.es.all kN)))
theorem qmE {m:af} {n:Nat} {e:Option Ent} (h:m[n]?=some e) (es:List AV):(mT m es)[n]?=some e:=by
 unfold mT
 split
 ·exact h
 ·unfold nQ
  rw[nl]
  ·exact h
  ·exact (z8.1 h).1
theorem NP {L:OL} (h:L.es.all Bb=true):∀ l∈L.es,l.ns.length<=64:=fun l hl=>(rD (fQ.1 h l hl)).2
theorem qhj {L:OL} (h:L.es.all Bb=true):∀ a∈(armsI (lens L)).ns,a<=64:=by
 rw[armsI_ns];intro a ha;obtain ⟨l,hl,rfl⟩:=iX.1 ha;have:=NP h l hl;omega
theorem qf1 {c:CV} {k:Nat} (hc:COk k c):AP ae 112 [c.av]=some (.bool (shapedB c)):=by
 have fin:∀ (v:Bool) (m:af),AC ae 112 [c.av] []=some (.bool v,m)->AP ae 112 [c.av]=some (.bool v):=fun v m h=>cW _ _ (px _) rfl h;have start:AC ae 112 [c.av] []=AC ae 112 [c.av] []:=rfl;have g0:([cC c]:af)[0]?=some (cC c):=rfl
 conv at start=>rhs;rw[qfe,Tg,aa]
 simp only[aM,bE,cL,cM,cJ,Uc] at start;rw[aa,Hq g0,aa,len_ol,aa,hJ,aa,az] at start;unfold shapedB
 by_cases c1:(c.odds.es.length:Int) > 16
 ·rw[an c1] at start;rw[dk (by omega),lQ];exact fin _ _ start
 rw[aj c1,aa,LH g0,aa,bg,aa,az] at start
 by_cases c2:c.leaf < 0
 ·rw[an c2] at start;rw[dk (by omega),lQ];exact fin _ _ start
 rw[aj c2,aa,LH g0,aa,hJ,aa,az] at start
 by_cases c3:c.leaf > 2147483647
 ·rw[an c3] at start;rw[dk (by omega),lQ];exact fin _ _ start
 have hn:=hc.nlen;rw[aj c3,aa,Hr g0,aa,D7,aa,hJ,aa,az,aj (by omega)] at start;rw[aa,As g0,aa,Iv,aa,aa,Hr g0,aa,D7,aa,iY,aa,az] at start;by_cases c4:c.ws.es.length=c.nodes.es.length
 case neg=>
  rw[an (by omega)] at start;rw[dk (fun h=>c4 h.2.2.2),lQ];exact fin _ _ start
 rw[eT (by omega),il];rw[aj (by omega),aa,Hq g0,aa,len_ol,aa] at start;obtain ⟨m',hW⟩:=Sx (.ptr 0 0) [cC c] c.odds (by omega) (Fe (aF ae.P f112.results.toList)) c.odds.es.length 0 (by omega);have e0:(.lst none true .full []:AV)=rT [cC c] 3 (((lens c.odds).take 0).map iA):=rfl;have e1:([cC c]:af)=mT [cC c] (((lens c.odds).take 0).map iA):=rfl;have start2:=start.trans hW;rw[jT] at start2;by_cases c5:c.odds.es.all Bb=true
 case neg=>
  rw[aj c5,qav] at start2;rw[xy.2 c5,lQ];exact fin _ _ start2
 rw[an c5,qaw] at start2;rw[c5,il];have g1:=qmE g0 ((lens c.odds).map iA);have V1:=V63 (armsI (lens c.odds)) c.odds.fr (NP c5) (by show c.odds.es.length<=40;omega);have V2:=qfY (armsI (lens c.odds)) (qhj c5) c.nodes.fr hc.nsh (by show c.nodes.es.length<=4000;omega);have V3:=qf7 hc.ws.fr' (by have:=hc.wlen;show c.ws.es.length < _;omega);rw[cL,aa,Hq g1,aa,fP (Ui _ _ _) (fz_ol _),V1,aQ,aa] at start2;have o1:oddsB (armsI (lens c.odds)) c.odds.fr=oddsB (armsI (lens c.odds)) c.odds:=rfl;rw[o1] at start2
 cases c6:oddsB (armsI (lens c.odds)) c.odds with
 | false=>
  rw[c6,ng] at start2;exact fin _ _ start2
 | true=>
  rw[c6,nE,cM,aa,Hr g1,aa,fP (Ui _ _ _) (qky _),V2,aQ,aa] at start2;have o2:nodesB (armsI (lens c.odds)) c.nodes.fr.es=nodesB (armsI (lens c.odds)) c.nodes.es:=rfl;rw[o2] at start2
  cases c7:nodesB (armsI (lens c.odds)) c.nodes.es with
  | false=>
   rw[c7,ng] at start2;exact fin _ _ start2
  | true=>
   rw[c7,nE,cJ,aa,As g1,aa,fP (Mi _) (fun _=>rfl),V3,aQ,aa,cY,aa,Bool.not_not] at start2;exact fin _ _ start2
end Go.Ab.Pq
namespace Go.Ab.Pq
open Go.Proofs.Tryz
def vy (n:Nat):NV:=⟨false,qF n,aB n⟩
theorem Ob (n:Nat):(vy n).fr=vy n:=by
 unfold vy NV.fr qF;split<;>rfl
theorem Sa {n:Nat} (h:n < 9223372036854775808):AP ae 168 [.int .i64 (n:Int)]=some (vy n).av:=by
 refine (cW _ _ (cu (vy n)) (pK _) (m:=[]) ?_).trans (by rw[Ob]);rw[qfK,N8,aa,ng,C7 (by omega),aa,de,Li (by omega)];rfl
theorem qf3 {a b:Nat} (ha:a < 9223372036854775808) (hb:b < 9223372036854775808) (h0:b≠0):∃ r:RV,AP ae 128 [.int .i64 (a:Int),.int .i64 (b:Int)]=some (.tup [r.av,.int .i64 0])/\Can r (dh false a b)/\r.fr=r:=by
 have la:(aB a).length<=2:=oL (by omega);have lb:(aB b).length<=2:=oL (by omega);have va:(vy a).v=a:=gj a;have vb:(vy b).v=b:=gj b
 rcases R9 (x:=vy a) (y:=vy b) false (ud (by omega)) (ud (by omega)) with ⟨h,_⟩ | ⟨_,r,e,h2,h3⟩
 ·rw[vb] at h;exact absurd h h0
 ·rw[va,vb] at h2;refine ⟨r,(cW _ _ (Dk r (jV .i64 0)) rfl (m:=[cR r]) ?_).trans (by rw[h3]),h2,h3⟩;rw[qfn,N8,aa,N8,aa,dD,aa];simp only[Bl,cH,aM,bE];rw[de,Sa ha,aQ,aa,de,Sa hb,aQ,aa,dF,Ob,Ob,show (false != false)=false from rfl,e,aQ,aa,di,aa,dj,aa,dr,aa,dd,aa]
def RowOk (l:IL):Prop:=l.ns.length<=64/\(∀ o∈l.ns,0<=o/\o<=1000)/\l.ns.sum≠0
theorem Pa:∀ {l:List Int},(∀ o∈l,0<=o/\o<=1000)->0<=l.sum/\l.sum<=1000 * (l.length:Int)
 | [],_=>by simp
 | a::l,h=>by
  obtain ⟨h1,h2⟩:=h a fJ;obtain ⟨h3,h4⟩:=Pa (fun o ho=>h o (fI _ ho));rw[mR,aJ];omega
theorem RowOk.sum {l:IL} (h:RowOk l):∃ S:Nat,l.ns.sum=(S:Int)/\S≠0/\S<=64000:=by
 obtain ⟨h1,h2⟩:=Pa h.2.1;obtain ⟨S,hS⟩:=nW h1;have:=h.1;exact ⟨S,hS,fun e=>h.2.2 (by rw[hS,e];rfl),by omega⟩
theorem RowOk.get {l:IL} (h:RowOk l) {i:Nat} (hi:i < l.ns.length):∃ a:Nat,l.ns[i]=(a:Int)/\a<=1000:=by
 obtain ⟨h1,h2⟩:=h.2.1 _ (bM hi);obtain ⟨a,ha⟩:=nW h1;exact ⟨a,ha,by omega⟩
def partQ (l:IL) (i:Nat):Rat:=dh false (l.ns.getD i 0).toNat l.ns.sum.toNat
theorem XC {l:IL} {i a S:Nat} (hi:i < l.ns.length) (ha:l.ns[i]=(a:Int)) (hS:l.ns.sum=(S:Int)):partQ l i=dh false a S:=by
 unfold partQ;rw[aT,bA hi,hS];show dh false (l.ns[i]).toNat _=_;rw[ha];rfl
theorem partQ_bd {l:IL} (h:RowOk l) {i:Nat} (hi:i < l.ns.length):Bd 1 (partQ l i):=by
 obtain ⟨S,hS,_,hS2⟩:=h.sum;obtain ⟨a,ha,Mw⟩:=h.get hi;rw[XC hi ha hS];exact BY (oL (by omega)) (oL (by omega)) (by omega)
theorem qpa {l:List Int} {i:Nat} (hi:i < l.length):(l.take (i+1)).sum=(l.take i).sum+l[i]:=by
 rw[n6 hi,List.sum_append];simp
theorem qo8 {l:IL} (h:RowOk l) (i:Nat):0<=(l.ns.take i).sum/\(l.ns.take i).sum<=64000:=by
 obtain ⟨h1,h2⟩:=Pa (l:=l.ns.take i) (fun o ho=>h.2.1 o (Gu ho));have:=h.1;rw[ji] at h2;omega
theorem SK {l:IL} (h:RowOk l) (x1 x4:AV) (m:af) (K:KT):∀ j i:Nat,i+j=l.ns.length ->
  Gm l.av x1 x4 (.int .i64 (l.ns.take i).sum) l.av (.int .i64 l.ns.length) (.int .i64 i) m K=K (.exit 0) (K3 l.av x1 x4 (.int .i64 l.ns.sum) m)
 | 0,i,rv=>by
  rw[Q3,dp,aa,az,aj (by omega),kY (by omega)]
 | j+1,i,rv=>by
  have hi:i < l.ns.length:=by omega
  have:=h.1;obtain ⟨b1,b2⟩:=qo8 h i;obtain ⟨a,ha,Mw⟩:=h.get hi;have ih:=SK h x1 x4 m K j (i+1) (by omega);rw[qpa hi] at ih;rw[Q3,dp,aa,az,an hi,vq hi,aa,vr,aa,kQ,iK (by omega) (by omega),aa,cG (by omega),aa,ih]
theorem qnD {m:af} {d:Option Nat} {g:Nat} (a b:Int):aD (AP ae) d m g [.int .i64 a,.int .i64 b]=(AP ae g [.int .i64 a,.int .i64 b]).map fun v=>(v,m):=fP (gu _ a) (gu _ b)
theorem V70 {l:IL} (h:RowOk l) {i:Nat} (hi:i < l.ns.length):∃ r:RV,AP ae 70 [l.av,.int .i64 (i:Int)]=some r.av/\Can r (partQ l i)/\r.fr=r:=by
 obtain ⟨S,hS,hS0,hS2⟩:=h.sum;obtain ⟨a,ha,Mw⟩:=h.get hi;obtain ⟨r,e1,e2,e3⟩:=qf3 (a:=a) (b:=S) (by omega) (by omega) hS0;refine ⟨r,(cW _ _ (iu r) (lN _) (m:=[cR r,cR r]) ?_).trans (by rw[e3]),by rw[XC hi ha hS];exact e2,e3⟩;have hW:=SK h (.int .i64 (i:Int)) (.ptr 0 0) [cR zR] (Kc (aF ae.P f70.results.toList)) l.ns.length 0 (by omega);rw[T70,qB,aa];refine (show _=_ from hW).trans ?_;rw[qec,vq hi,aa,vr,aa,ha,hS,qnD,e1,aQ,aa,di,aa,dj,aa];simp only[Bl,cH,aM,bE,aJ,bQ,bf];rw[cV,aa,cS,aa,dr,aa,dd,aa]
def sumR (F:Nat->Rat):Nat->Rat
 | 0=>0
 | j+1=>sumR F j+F j
def wQ (ws:LV) (k:Nat):Rat:=(ws.es.map RV.q).getD k 0
theorem wQ_get {ws:LV} {k:Nat} (h:k < ws.es.length):wQ ws k=ws.es[k].q:=by
 unfold wQ;rw[aT,n0,bA h];rfl
def termQ (l:IL) (ws:LV) (n:ND) (i:Nat):Rat:=partQ l i * wQ ws (n.kids.ns.getD i 0).toNat
def hasQ (odds:OL) (ws:LV) (leaf:Int) (n:ND):Rat:=
 if n.var < 0 then (if n.leaf=leaf then 1 else 0) else sumR (termQ (odds.es.getD n.var.toNat ⟨true,.full,[]⟩) ws n) n.kids.ns.length
structure NodeOk (l:IL) (ws:LV) (n:ND):Prop where
 row:RowOk l
 len:n.kids.ns.length=l.ns.length
 kids:∀ k∈n.kids.ns,0<=k/\k < ws.es.length
theorem NodeOk.kid {l:IL} {ws:LV} {n:ND} (h:NodeOk l ws n) {i:Nat} (hi:i < n.kids.ns.length):∃ k:Nat,n.kids.ns[i]=(k:Int)/\k < ws.es.length/\n.kids.ns.getD i 0=(k:Int):=by
 obtain ⟨h1,h2⟩:=h.kids _ (bM hi);obtain ⟨k,hk⟩:=nW h1;refine ⟨k,hk,by omega,?_⟩;rw[aT,bA hi];exact hk
theorem Y8 {l:IL} {ws:LV} {n:ND} (h:NodeOk l ws n) (hw:LOk 30 ws) {i:Nat} (hi:i < n.kids.ns.length):Bd 31 (termQ l ws n i):=by
 obtain ⟨k,hk,kK,MT⟩:=h.kid hi;unfold termQ;rw[MT,cK,wQ_get kK];exact Z2 (partQ_bd h.row (by rw[<- h.len];exact hi)) ((hw.ok _ (bM kK)).bd (by omega)) (by omega)
theorem Y5 {l:IL} {ws:LV} {n:ND} (h:NodeOk l ws n) (hw:LOk 30 ws):∀ {j:Nat},j<=n.kids.ns.length->Bd (32 * j+1) (sumR (termQ l ws n) j)
 | 0,_=>JF (by omega)
 | j+1,hj=>(JD (Y5 h hw (by omega)) (Y8 h hw (by omega)) (by omega)).mono (by omega)
theorem Y6 {l:IL} {ws:LV} {n:ND} (h:NodeOk l ws n) (hw:LOk 30 ws) {j:Nat} (hj:j<=n.kids.ns.length):Bd 4000 (sumR (termQ l ws n) j):=by
 have h1:=h.row.1;have h2:=h.len;exact (Y5 h hw hj).mono (by omega)
theorem Sw {odds:OL} {n:ND} {ws:LV} {v:Nat} (hw:LOk 30 ws) (hv:n.var=(v:Int)) (fT:v < odds.es.length) (h:NodeOk odds.es[v] ws n) (K:KT):∀ (j i:Nat) (s:RV),i+j=n.kids.ns.length->Can s (sumR (termQ odds.es[v] ws n) i)->s.fr=s ->
  ∃ t:RV,Can t (sumR (termQ odds.es[v] ws n) n.kids.ns.length)/\t.fr=t/\zK odds.av ws.av (.ptr 0 0) (.ptr 1 0) (.ptr 2 0) n.kids.av (.int .i64 n.kids.ns.length) (.int .i64 i) [cN n,cR zR,cR s] K=K (.exit 0) (GC (.ptr 1 0) (.ptr 2 0) [cN n,cR zR,cR t])
 | 0,i,s,rv,hs,hf=>by
  obtain rfl:i=n.kids.ns.length:=by omega
  exact ⟨s,hs,hf,by rw[FH,dp,aa,az,aj (by omega)]⟩
 | j+1,i,s,rv,hs,hf=>by
  have hi:i < n.kids.ns.length:=by omega
  have hlen:=h.len;have h64:=h.row.1;obtain ⟨k,hk,kK,MT⟩:=h.kid hi;obtain ⟨p,p1,p2,p3⟩:=V70 (l:=odds.es[v].fr) h.row (i:=i) (show i < odds.es[v].ns.length by omega);have p2:Can p (partQ odds.es[v] i):=p2;have okp:=p2.ok ((partQ_bd h.row (by omega)).mono (by omega:1<=4000)) (by omega);have okw:=(hw.ok _ (bM kK)).mono (by omega:30<=4000);obtain ⟨q,q1,q2,q3⟩:=Ll okp okw (by omega) (by omega)
  have et:p.q * ws.es[k].q=termQ odds.es[v] ws n i:=by
   unfold termQ;rw[p2.q,MT,cK,wQ_get kK]
  rw[et] at q2;have oks:=hs.ok (Y6 h hw (by omega)) (by omega);have okq:=q2.ok ((Y8 h hw hi).mono (by omega:31<=4000)) (by omega);obtain ⟨t,t1,t2,t3⟩:=G5 oks okq (by omega) (by omega);have es:s.q+q.q=sumR (termQ odds.es[v] ws n) (i+1):=by rw[hs.q,q2.q];rfl
  rw[es] at t2;obtain ⟨u,u1,u2,u3⟩:=Sw hw hv fT h K j (i+1) t (by omega) t2 t3;refine ⟨u,u1,u2,?_⟩;have wfr:=hw.fr _ (bM kK)
  have rowfr:∀ (d:Option Nat) (m:af),aD (AP ae) d m 70 [odds.es[v].av,.int .i64 (i:Int)]=some (p.av,m):=by
   intro d m;rw[fP (fz_il _) (gu _ _),p1];rfl
  rw[FH,dp,aa,az,an hi,vq hi,aa,vr,aa,dn,aa,cL,aa,y4 (x:=n) rfl,aa,hv,index_ol fT,aa,load_ol,aa,rowfr,aa,hk,Io hw kK,aa,Ix,aa,cU,p3,wfr,q1,aQ,aa,cU,hf,q3,t1,aQ,aa,dw,aa,cG (by omega),aa];exact u3
def CC (odds:OL) (ws:LV) (n:ND):Prop:=n.var < 0\/∃ (v:Nat) (hv:v < odds.es.length),n.var=(v:Int)/\NodeOk odds.es[v] ws n
theorem hasQ_leaf {odds:OL} {ws:LV} {leaf:Int} {n:ND} (h:n.var < 0):hasQ odds ws leaf n=if n.leaf=leaf then 1 else 0:=by unfold hasQ;rw[an h]
theorem hasQ_node {odds:OL} {ws:LV} {leaf:Int} {n:ND} {v:Nat} (hv:v < odds.es.length) (h:n.var=(v:Int)):hasQ odds ws leaf n=sumR (termQ odds.es[v] ws n) n.kids.ns.length:=by
 unfold hasQ;rw[aj (by omega),h,cK,aT,bA hv];rfl
theorem qf0 {odds:OL} {n:ND} {ws:LV} (leaf:Int) (hw:LOk 30 ws) (h:CC odds ws n):∃ s:RV,AP ae 110 [odds.av,n.av,.int .i64 leaf,ws.av]=some s.av/\Can s (hasQ odds ws leaf n)/\s.fr=s:=by
 have fin:∀ (s:RV) (m:af),s.fr=s->AC ae 110 [odds.av,n.av,.int .i64 leaf,ws.av] []=some (s.av,m)->AP ae 110 [odds.av,n.av,.int .i64 leaf,ws.av]=some s.av:=fun s m hs h=>(cW _ _ (iu s) (lN _) h).trans (by rw[hs]);have start:AC ae 110 [odds.av,n.av,.int .i64 leaf,ws.av] []=AC ae 110 [odds.av,n.av,.int .i64 leaf,ws.av] []:=rfl;have gn:∀ M:af,(cN n::M)[0]?=some (cN n):=fun _=>rfl
 conv at start=>rhs;rw[RF,qjo,aa]
 simp only[Bl,cH,aM,bE,aJ,bQ,bf] at start;rw[cL,aa,y4 (gn _),aa,bg,aa,az] at start
 rcases h with h | ⟨v,hv,hn,h⟩
 ·rw[an h,cJ,aa,Oh (gn _),aa,ir,aa,az] at start;rw[hasQ_leaf h]
  by_cases c:n.leaf=leaf
  ·rw[an c,cT,Lk,aQ,aa,cV,aa,cS,aa] at start;refine ⟨jF,fin _ _ Xo start,?_,Xo⟩;rw[an c];exact LB
  ·rw[aj c,cT,CP,aQ,aa,cV,aa,cS,aa] at start;refine ⟨nS,fin _ _ zB start,?_,zB⟩;rw[aj c];exact wg
 ·obtain ⟨t,t1,t2,t3⟩:=Sw hw hn hv h (B2 (aF ae.P f110.results.toList)) n.kids.ns.length 0 nS (by omega) wg zB;rw[show (((0:Nat):Int))=(0:Int) from rfl] at t3;rw[aj (by omega),cT,CP,aQ,aa] at start;simp only[Bl,cH,aM,bE,aJ,bQ,bf,Nat.reduceAdd] at start;rw[dw,aa,cM,aa,IJ (gn _),aa,qB,aa,t3,PW,dn,aa,cV,aa,cS,aa] at start;exact ⟨t,fin _ _ t2 start,by rw[hasQ_node hv hn];exact t1,t2⟩
end Go.Ab.Pq
