/- Division and the greatest common divisor of nat, in values. -/
import Derived.Test.YtiipgpkgcdhbfaaGreatDoorCP3
import Derived.Test.YtiipgpkgcdhbfaaGreatDoorCP2
set_option maxRecDepth 100000
set_option linter.unusedVariables false
set_option linter.unusedSimpArgs false
set_option linter.unusedSectionVars false
namespace Go.Ab
open Go.Proofs.Tryz
def lG (x y:NV):NV:=if x.v < y.v then ⟨true,.full,[]⟩ else ⟨false,.no,aD (x.v / y.v)⟩
def o0 (x y:NV):NV:=if x.v < y.v then ⟨x.z,qS x.v,aD x.v⟩ else if y.v < 4294967296 then ⟨false,qS (x.v % y.v),aD (x.v % y.v)⟩ else ⟨false,.no,aD (x.v % y.v)⟩
theorem Ic (x y:NV):(lG x y).ds=aD (x.v / y.v):=by
 unfold lG
 split
 ·rename_i h;rw[Nat.div_eq_of_lt h,lF]
 ·rfl
theorem Ie (x y:NV):(o0 x y).ds=aD (x.v % y.v):=by
 unfold o0
 split
 ·rename_i h;rw[lB h]
 ·split<;>rfl
theorem kX {a b:Nat} (h:a<=b):(aD a).length<=(aD b).length:=by
 have:=nc (gm b);rw[gz] at this;exact nN (jJ h this)
theorem NOk.v_len {x:NV} (h:NOk x):(aD x.v).length<=x.ds.length:=UQ h.dg
theorem NOk.v_len' {x:NV} (h:NOk x):(aD x.v).length < 2 ^ 40:=jJ h.v_len h.len
theorem NOk.z_v {x:NV} (h:NOk x):x.z=true->aD x.v=[]:=by
 intro hz;rw[NV.v,h.nil hz];exact lF
theorem US {x y:NV} (hx:NOk x):NOk (lG x y):=by
 refine ⟨by rw[Ic];exact gm _,?_,?_⟩
 ·rw[Ic];exact jJ (kX (AM _ _)) hx.v_len'
 ·unfold lG
  split
  ·intro _;rfl
  ·intro h;cases h
theorem qli {x y:NV} (hx:NOk x):NOk (o0 x y):=by
 refine ⟨by rw[Ie];exact gm _,?_,?_⟩
 ·rw[Ie];exact jJ (kX (Nat.mod_le _ _)) hx.v_len'
 ·unfold o0
  split
  ·exact hx.z_v
  ·split<;>(intro h;cases h)
theorem Jq (n:Nat):(qS n).fr=qS n:=by unfold qS;split<;>rfl
theorem DS (x y:NV):(lG x y).fr=lG x y:=by unfold lG;split<;>rfl
theorem If (x y:NV):(o0 x y).fr=o0 x y:=by
 unfold o0
 split
 ·simp only[NV.fr,Jq]
 ·split
  ·simp only[NV.fr,Jq]
  ·rfl
theorem MN (x y:NV):(o0 x y).v=x.v % y.v:=by rw[NV.v,Ie,gz]
def Ig (x y:NV):AV:=if y.v=0 then .tup [BT,BT,.int .i64 31] else .tup [(lG x y).av,(o0 x y).av,.int .i64 0]
theorem nq {n:Nat}:(aD n).length=0↔n=0:=by rw[List.length_eq_zero_iff];exact Fp
theorem Ia {n:Nat}:(aD n).length=1↔n≠0/\n < 4294967296:=by
 constructor
 ·intro h;have h1:=nc (gm n);rw[gz,h] at h1;exact ⟨fun e=>by rw[e,lF] at h;simp at h,by simpa using h1⟩
 ·intro ⟨h,h'⟩;have h1:=nN (k:=1) (n:=n) (by simpa using h');have h2:(aD n).length≠0:=fun e=>h (nq.1 e);omega
theorem H9 {n:Nat} (h:n≠0):(aD n).getD ((aD n).length - 1) 0≠0:=by
 intro e;have h1:su (aD n)=true:=by rw[su,gz];exact eE rfl
 rw[<- Zc (gm n),B5] at h1;have h2:¬ (aD n).length=0:=fun e=>h (nq.1 e);rw[e] at h1;simp[h2] at h1
theorem XI {t:Nat} (h:0 < t) (h':t < 4294967296):lz t < 32/\2147483648<=t * 2 ^ lz t/\t * 2 ^ lz t < 4294967296:=by
 have hl:Nat.log2 t < 32:=(Nat.log2_lt (by omega)).2 h';have h1:=Nat.log2_self_le (n:=t) (by omega);have h2:=Nat.lt_log2_self (n:=t);unfold lz;generalize Nat.log2 t=k at *;have e:2 ^ k * 2 ^ (31 - k)=2147483648:=by rw[<- rm,show k+(31 - k)=31 by omega]
 have e2:2 ^ (k+1) * 2 ^ (31 - k)=4294967296:=by rw[<- rm,show k+1+(31 - k)=32 by omega]
 refine ⟨by omega,?_,?_⟩
 ·rw[<- e];exact iS _ h1
 ·rw[<- e2];exact Nat.mul_lt_mul_of_pos_right h2 (uQ _)
theorem qpD {b:Nat} {n:Nat} (hn:(aD b).length=n) (nA:1<=n) (hs:lz ((aD b).getD (n - 1) 0) < 32) :
  (aD (2 ^ lz ((aD b).getD (n - 1) 0) * b)).length=n/\2147483648<=(aD (2 ^ lz ((aD b).getD (n - 1) 0) * b)).getD (n - 1) 0:=by
 have hb:b≠0:=by intro e;rw[e,lF] at hn;simp at hn;omega
 have pf:=H9 hb;rw[hn] at pf;have hd:=gm b (n - 1);obtain ⟨s1,s2,s3⟩:=XI (oX pf) hd;obtain ⟨k,rfl⟩:∃ k,n=k+1:=⟨n - 1,by omega⟩;rw[pF] at *;have hv:b=vs (aD b) k+4294967296 ^ k * (aD b).getD k 0:=by rw[<- jT,jo (Nat.le_of_eq hn),gz]
 have hZ:=xO (gm b) k;generalize (aD b).getD k 0=t at *;generalize vs (aD b) k=l at *;generalize lz t=s at *;have hp:=uQ s
 have hlt:2 ^ s * b < 4294967296 ^ (k+1):=by
  have h1:b < 4294967296 ^ k * (t+1):=by rw[gB];omega
  have h4:(t+1) * 2 ^ s<=4294967296:=by
   have hpw:2 ^ s * 2 ^ (32 - s)=4294967296:=zJ s1;rw[<- hpw,cO] at s3 ⊢;have:=Nat.lt_of_mul_lt_mul_left s3;exact kJ _ this
  have h2:2 ^ s * b < 2 ^ s * (4294967296 ^ k * (t+1)):=Nat.mul_lt_mul_of_pos_left h1 hp;have h3:2 ^ s * (4294967296 ^ k * (t+1))=4294967296 ^ k * ((t+1) * 2 ^ s):=by rw[Nat.mul_left_comm,cO (2 ^ s)]
  have h5:4294967296 ^ k * ((t+1) * 2 ^ s)<=4294967296 ^ k * 4294967296:=kJ _ h4;rw[jW];omega
 have wT:4294967296 ^ k * (t * 2 ^ s)<=2 ^ s * b:=by
  rw[cO t,Nat.mul_left_comm];exact kJ _ (by omega)
 have IH:=nN hlt
 have qmy:k < (aD (2 ^ s * b)).length:=by
  apply qw;intro hc;have h1:=nc (gm (2 ^ s * b));rw[gz] at h1;have h2:4294967296 ^ (aD (2 ^ s * b)).length<=4294967296 ^ k:=pY (by omega) (by omega);have h3:4294967296 ^ k * 1<=4294967296 ^ k * (t * 2 ^ s):=kJ _ (by omega);omega
 refine ⟨by omega,?_⟩;have ud:2 ^ s * b=vs (aD (2 ^ s * b)) k+4294967296 ^ k * (aD (2 ^ s * b)).getD k 0:=by rw[<- jT,jo (by omega),gz]
 have qqP:=xO (gm (2 ^ s * b)) k;generalize (aD (2 ^ s * b)).getD k 0=y at *;generalize vs (aD (2 ^ s * b)) k=l2 at *;apply qw;intro hc;have h1:4294967296 ^ k * (y+1)<=4294967296 ^ k * (t * 2 ^ s):=kJ _ (by omega);rw[gB] at h1;omega
theorem qnD {v u0:List Nat} {n m:Nat} (du:Dg u0) (hu:u0.length=m+n) (hlt:wn u0 m n < val v):KInv v u0 n m m u0 (List.replicate m 0) where
 du:=du
 lu:=hu
 dq:=yC m
 lq:=uK
 hi:=by
  intro k hk;exact yI (by omega)
 lo:=fun _ _=>rfl
 lt:=hlt
 eq:=by rw[oY,wn,yg,br,Nat.add_sub_cancel_left]
theorem qqi {u v:List Nat} {n m:Nat} (hu:Dg u) (hn:v.length=n) (nA:1<=n) (h:u.getD (m+n - 1) 0 < v.getD (n - 1) 0):wn u m n < val v:=by
 obtain ⟨k,rfl⟩:∃ k,n=k+1:=⟨n - 1,by omega⟩;rw[pF,show m+(k+1) - 1=m+k by omega] at h;have h1:=zZ hu m k;have h2:4294967296 ^ k * (u.getD (m+k) 0+1)<=4294967296 ^ k * v.getD k 0:=kJ _ h;rw[wn,<- jo (Nat.le_of_eq hn),jT];rw[gB] at h2;omega
theorem Md {x y:NV} (hx:NOk x) (hy:NOk y):AP ae 187 [x.av,y.av]=some (Ig x y):=by
 have lx:=hx.v_len';have ly:=hy.v_len';have hX:NOk ⟨x.z,.no,aD x.v⟩:=⟨gm _,lx,hx.z_v⟩;have hY:NOk ⟨y.z,.no,aD y.v⟩:=⟨gm _,ly,hy.z_v⟩;have e1:=tH hx.fr;have e2:=tH hy.fr;rw[show x.fr.v=x.v from rfl,show x.fr.z=x.z from rfl] at e1;rw[show y.fr.v=y.v from rfl,show y.fr.z=y.z from rfl] at e2;have e3:=wu hX hY;have vX:(NV.mk x.z .no (aD x.v)).v=x.v:=gz _;have vY:(NV.mk y.z .no (aD y.v)).v=y.v:=gz _;rw[vX,vY] at e3;have fX:=cD ⟨x.z,.no,aD x.v⟩;have fY:=cD ⟨y.z,.no,aD y.v⟩;rw[show (NV.mk x.z .no (aD x.v)).fr=⟨x.z,.no,aD x.v⟩ from rfl] at fX;rw[show (NV.mk y.z .no (aD y.v)).fr=⟨y.z,.no,aD y.v⟩ from rfl] at fY;unfold Ig
 by_cases h0:y.v=0
 ·rw[an h0];refine cM _ _ (wL Ba Ba (jX _ _)) rfl (m:=[]) ?_;rw[HH,cG (cD x),e1,aS,aa,cG (cD y),e2,aS,aa,iJ,aa,nT,aa,aA,an (nq.2 h0)]
 ·rw[aj h0];have kf:¬ (aD y.v).length=0:=fun e=>h0 (nq.1 e)
  by_cases h1:x.v < y.v
  ·have hc:gW x.v y.v < 0:=by unfold gW;rw[an h1];omega
   refine cM _ _ (wL (qH (lG x y)) (qH (o0 x y)) (jX _ _)) rfl (m:=[]) ?_ |>.trans (by rw[DS,If])
   rw[HH,cG (cD x),e1,aS,aa,cG (cD y),e2,aS,aa,iJ,aa,nT,aa,aA,aj kf,
    fe fX fY,e3,aS,aa,bc,aa,aA,an hc,cG fX,SZ hX,aS,aa]
   unfold lG o0;rw[an h1,an h1]
   rfl
  ·have hc:¬ gW x.v y.v < 0:=by unfold gW;rw[aj h1];split<;>omega
   by_cases h2:y.v < 4294967296
   ·have lR:(aD y.v).length=1:=Ia.2 ⟨h0,h2⟩
    have NG:(aD y.v).getD 0 0=y.v:=by
     rw[yD h0,pE,lB h2]
    have hlt:x.v % y.v < y.v:=kA _ (by omega);refine cM _ _ (wL (qH (lG x y)) (qH (o0 x y)) (jX _ _)) rfl (m:=[]) ?_ |>.trans (by rw[DS,If])
    have e4:=qhs (d:=y.v) hX (by omega) h2;rw[vX] at e4
    rw[HH,cG (cD x),e1,aS,aa,cG (cD y),e2,aS,aa,iJ,aa,nT,aa,aA,aj kf,
     fe fX fY,e3,aS,aa,bc,aa,aA,aj hc,aa,vI,aa,aA,an lR,I6 (by simp only[lR];omega),aa,kT,aa]
    simp only[NG];rw[fe (b:=dg y.v) (b':=dg y.v) fX (fW .u32 y.v),e4];simp only[aS,aa,aZ]
    rw[show ([NV.av ⟨false,.no,aD (x.v / y.v)⟩,dg (x.v % y.v)]:List AV)[0]?=some (NV.av ⟨false,.no,aD (x.v / y.v)⟩) from rfl,show ([NV.av ⟨false,.no,aD (x.v / y.v)⟩,dg (x.v % y.v)]:List AV)[1]?=some (dg (x.v % y.v)) from rfl,
     aa,aa,mJ _ (by omega),aa,cG (fW _ _),Mc (by omega)]
    unfold lG o0;rw[aj h1,aj h1,an h2]
    rfl
   ·have lR:¬ (aD y.v).length=1:=fun e=>h2 (Ia.1 e).2;obtain ⟨n,hn⟩:∃ n,n=(aD y.v).length:=⟨_,rfl⟩;have nA:2<=n:=by omega
    have pf:=H9 h0;rw[<- hn] at pf;have By:=gm y.v (n - 1);obtain ⟨z1,z2,z3⟩:=XI (oX pf) By;obtain ⟨w1,w2⟩:=qpD hn.symm (by omega) z1;have hle:y.v<=x.v:=wk h1;have qqR:=kX hle;generalize hs:lz ((aD y.v).getD (n - 1) 0)=s at *;have ic:(jF (aD x.v) s (aD x.v).length).length=(aD x.v).length+1:=zP _ _ _;have WG:(jF (aD y.v) s (aD y.v).length).length=(aD y.v).length+1:=zP _ _ _;have hsu:val (jF (aD x.v) s (aD x.v).length)=2 ^ s * x.v:=by rw[Zu,gz]
    have hsv:val (jF (aD y.v) s (aD y.v).length)=2 ^ s * y.v:=by rw[Zu,gz]
    have VQ:Dg (jF (aD x.v) s (aD x.v).length):=PJ (gm _) z1 _ (aR _);have Ec:Dg (jF (aD y.v) s (aD y.v).length):=PJ (gm _) z1 _ (aR _);have mU:(jF (aD x.v) s (aD x.v).length).getD (aD x.v).length 0 < 2 ^ s:=PK (gm _) _ (aR _);have qmX:2 ^ s<=2 ^ 31:=pY (by omega) (by omega);obtain ⟨mm,y0⟩:∃ mm,(aD x.v).length+1=mm+n:=⟨(aD x.v).length+1 - n,by omega⟩;have hW:NOk ⟨false,.no,aD (2 ^ s * y.v)⟩:=⟨gm _,by simp only[w1];omega,by simp⟩
    have e5:AP ae 164 [(NV.mk false .no (jF (aD y.v) s (aD y.v).length)).av]=some (NV.av ⟨false,.no,aD (2 ^ s * y.v)⟩):=by
     rw[rp _ (by simp only[WG];omega),lp Ec,hsv]
    have hp:=xr (cp:=AP ae) (g:=164) (m:=[oc (jF (aD x.v) s (aD x.v).length),oc (jF (aD y.v) s (aD y.v).length)]) (nm:=1) (ds:=jF (aD y.v) s (aD y.v).length) rfl
    have hI:=qnD (v:=aD (2 ^ s * y.v)) (n:=n) (m:=mm) VQ (by omega) (qqi VQ w1 (by omega) (by
     rw[show mm+n - 1=(aD x.v).length by omega]
     exact rj mU (ef qmX w2)))
    obtain ⟨u',q',i1,i2⟩:=qhS ⟨false,.no,aD (2 ^ s * y.v)⟩ _ (KC (aE ae.P f187.results.toList)) (.int .u64 s) (mm+n) n mm w1 nA (gm _) rfl (by omega) w2 mm _ _ (aR _) hI;obtain ⟨k1,k2⟩:=KInv.done (a:=aD x.v) (b:=aD y.v) z1 (by omega) (by rw[hsu,gz]) (by rw[gz,gz]) i1;rw[gz,gz] at k1 k2;have yX:=i1.lq;have Wf:=i1.lu;have i3:=qhW u' q' (KG (aE ae.P f187.results.toList)) (.arr 2 0 mm none) s (mm+n) n i1.du Wf (by omega) (by omega) z1 n 0 (by omega);have p1:=xr (cp:=AP ae) (g:=164) (m:=M3 u' q'++[oc (lr u' s n)]) (nm:=2) (ds:=q') rfl;have p2:=xr (cp:=AP ae) (g:=164) (m:=(M3 u' q'++[oc (lr u' s n)]).set 2 none) (nm:=3) (ds:=lr u' s n) rfl;rw[yX] at p1;rw[Fk] at p2;have f1:=tH (x:=⟨false,.no,q'⟩) ⟨i1.dq,by simp only[yX];omega,by simp⟩;have f2:=tH (x:=⟨false,.no,lr u' s n⟩) ⟨J3 i1.du z1 n,by simp only[Fk];omega,by simp⟩;rw[NV.v,<- lp i1.dq,k1] at f1;rw[NV.v,<- lp (J3 i1.du z1 n),k2] at f2;refine cM _ _ (wL (qH (lG x y)) (qH (o0 x y)) (jX _ _)) rfl (m:=[oc u',none,none,none]) ?_ |>.trans (by rw[DS,If])
    rw[HH,cG (cD x),e1,aS,aa,cG (cD y),e2,aS,aa,iJ,aa,nT,aa,aA,aj kf,
     fe fX fY,e3,aS,aa,bc,aa,aA,aj hc,aa,vI,aa,aA,aj lR,
     aa,ph (by simp only[];omega) (by simp only[];omega),aa,mV (by simp only[];omega),aa,kT,aa]
    simp only[show (aD y.v).getD ((aD y.v).length - 1) 0=(aD y.v).getD (n - 1) 0 by rw[hn]];rw[cG (a:=dg ((aD y.v).getD (n - 1) 0)) (a':=dg ((aD y.v).getD (n - 1) 0)) (fW _ _),qht (oX pf) By,aS,aa,hs,AZ (by omega),aa,S9 [] hX z1,aa,S9 _ hY z1,aa];simp only[bQ,aQ,aL,b8];rw[WG] at hp;rw[hp,e5,aS,aa,iJ,aa,qnL,aa];simp only[w1,y0];rw[nD (by omega) (by omega),aa,pF,xj (by omega) (by omega),aa,aa,nD (by omega) (by omega),aa,pF,ug (by omega),aa]
    refine Eq.trans ?_ (i2.trans ?_)
    ·rfl
    rw[qdu,xj (by omega) (by omega),aa]
    refine Eq.trans ?_ (i3.trans ?_)
    ·rfl
    rw[qdN,p1,f1,aS,aa,p2,f2,aS,aa];unfold lG o0;rw[aj h1,aj h1,aj h2]
    rfl
end Go.Ab
namespace Go.Ab
open Go.Proofs.Tryz
def lK (x y:NV):NV:=⟨if Nat.gcd x.v y.v=0 then x.z else false,qS (Nat.gcd x.v y.v),aD (Nat.gcd x.v y.v)⟩
theorem qhQ (K:KT) (m:af):∀ (n:Nat) (a b:NV),NOk a->NOk b->a.ds=aD a.v->b.ds=aD b.v->b.v=n->a.fr=a->b.fr=b ->
  ∃ c:NV,NOk c/\c.ds=aD (Nat.gcd a.v b.v)/\c.fr=c/\(b.v=0->c.z=a.z)/\GW a.av b.av m K=K (.exit 0) (Lp c.av m):=by
 intro n
 induction n using Nat.strongRecOn with
 | ind n ih=>
  intro a b ha hb ca cb hn fa fb;have fza:=cD a;have fzb:=cD b;rw[fa] at fza;rw[fb] at fzb;rw[qfV,iJ,aa,vJ,aa,aA]
  by_cases h:b.v=0
  ·have hl:¬ b.ds.length > 0:=by rw[cb,h,lF];simp
   rw[aj hl];exact ⟨a,ha,by rw[h,Nat.gcd_zero_right];exact ca,fa,fun _=>rfl,rfl⟩
  ·have hl:b.ds.length > 0:=by
    rw[cb];have:(aD b.v).length≠0:=fun e=>h (nq.1 e);omega
   rw[an hl,fe fza fzb,Md ha hb,Ig,aj h];simp only[aS,aa];have hlt:a.v % b.v < b.v:=kA _ (oX h);obtain ⟨c,c1,c2,c3,c4,c5⟩:=ih (a.v % b.v) (by omega) b (o0 a b) hb (qli ha) cb (by rw[Ie,MN]) (MN a b) fb (If a b);rw[MN] at c2;refine ⟨c,c1,?_,c3,fun e=>absurd e h,c5⟩;rw[c2,uP b.v,<- Nat.gcd_rec,uP]
theorem S8 {x y:NV} (hx:NOk x) (hy:NOk y):AP ae 183 [x.av,y.av]=some (lK x y).av:=by
 have lx:=hx.v_len';have ly:=hy.v_len';have hX:NOk ⟨x.z,.no,aD x.v⟩:=⟨gm _,lx,hx.z_v⟩;have hY:NOk ⟨y.z,.no,aD y.v⟩:=⟨gm _,ly,hy.z_v⟩;have e1:=tH hx.fr;have e2:=tH hy.fr;rw[show x.fr.v=x.v from rfl,show x.fr.z=x.z from rfl] at e1;rw[show y.fr.v=y.v from rfl,show y.fr.z=y.z from rfl] at e2;have vX:(NV.mk x.z .no (aD x.v)).v=x.v:=gz _;have vY:(NV.mk y.z .no (aD y.v)).v=y.v:=gz _;obtain ⟨⟨cz,co,cd⟩,c1,c2,c3,c4,c5⟩:=qhQ (KA (aE ae.P f183.results.toList)) [] _ _ _ hX hY (by rw[vX]) (by rw[vY]) rfl rfl rfl;rw[vX,vY] at c2;rw[vY] at c4;simp only at c2 c4;subst c2
 have hz:cz=if Nat.gcd x.v y.v=0 then x.z else false:=by
  split
  ·rename_i h;exact c4 (Nat.eq_zero_of_gcd_eq_zero_right h)
  ·rename_i h;have h5:=c1.nil;simp only at h5
   cases cz with
   | false=>rfl
   | true=>exact absurd (Fp.1 (h5 rfl)) h
 refine iw (v:=(NV.mk cz (qS (Nat.gcd x.v y.v)) (aD (Nat.gcd x.v y.v))).av) (m:=[]) ?_ (by rw[cD];simp only[NV.fr,Jq];rw[lK,<- hz]) (by simp[lK,NV.av,jd]);rw[qg0,cG (cD x),e1,aS,aa,cG (cD y),e2,aS,aa];refine c5.trans ?_;rw[qdo,cG (cD _),c3,SZ c1]
 rfl
theorem qlg {a b:Nat} (h:(aD a).length < 2 ^ 40) (h':(aD b).length < 2 ^ 40):(aD (Nat.gcd a b)).length < 2 ^ 40:=by
 by_cases ha:a=0
 ·rw[ha,Nat.gcd_zero_left];exact h'
 ·exact jJ (kX (Nat.gcd_le_left _ (oX ha))) h
theorem Vf {x y:NV} (hx:NOk x) (hy:NOk y):NOk (lK x y):=by
 refine ⟨gm _,qlg hx.v_len' hy.v_len',?_⟩;unfold lK;simp only
 split
 ·rename_i h;intro _;rw[h];exact lF
 ·intro h;cases h
theorem Vg (x y:NV):(lK x y).v=Nat.gcd x.v y.v:=gz _
theorem qlV (x y:NV):(lK x y).fr=lK x y:=by unfold lK NV.fr;simp only[Jq]
end Go.Ab
namespace Go.Ab
noncomputable section
open Go.Proofs.Tryz
theorem T72 (a0:AV) (m:af):AC ae 72 [a0] m=(bq .u32 a0).bind fun v1=>(ag .other .shr a0 (.int .u64 32)).bind fun v2=>(bq .u32 v2).bind fun v3=>(dH none [v1,v3]).bind fun v4=>(aC (AP ae) none m 133 [v4]).bind fun r5=>some (r5.1,r5.2):=
(bj ae 72 [a0] m (fn:=f72) (c:=aB f72) qke rfl).trans (by kernel_rfl)
def LO (x5:AV) (m:af):St:=⟨(aO (aG (x5::bp (aJ (aG []))))),m⟩
def G7 (x0 x1 x5 x6:AV) (m:af) (K:KT):OM:=bX 75 (b6 (c2 (c2 (c2 (aB f75))))) 4 (x0::x1::aJ (aG (x5::x6::bp (aJ [])))) m K
def LP (x0 x1 x5 x6 x7:AV) (m:af):St:=⟨(x0::x1::aJ (aG (x5::x6::x7::bp (aG [])))),m⟩
def G8 (x0 x1 x5 x6 x7 x8:AV) (m:af) (K:KT):OM:=bX 75 (b6 (tP (b6 (c2 (c2 (c2 (aB f75))))))) 8 (x0::x1::aJ (aG (x5::x6::x7::x8::bp []))) m K
abbrev qfa (K:KT):KT:=bF 75 (bm (aB f75)) K
abbrev qfb (K:KT):KT:=bu 0 (qfa K)
abbrev KN (K:KT):KT:=(qfb K)
abbrev qfd (K:KT):KT:=bF 75 (l9 (p7 (c2 (aB f75)))) (nY 75 (b6 (c2 (c2 (c2 (aB f75))))) 4 K)
abbrev qfe (K:KT):KT:=bu 1 (qfd K)
abbrev qff (K:KT):KT:=bF 75 (l9 (tP (A5 (aB f75)))) (qfe K)
abbrev qfg (K:KT):KT:=bu 2 (qff K)
abbrev KO (K:KT):KT:=(qfg K)
theorem T75 (a0 a1:AV) (m:af):AC ae 75 [a0,a1] m=(aC (AP ae) none m 133 [a0]).bind fun r1=>(aC (AP ae) none r1.2 133 [a1]).bind fun r2=>(aK false r1.1).bind fun v3=>(aK false r2.1).bind fun v4=>(ag .other .add v3 v4).bind fun v5=>(jc none 161 none (.int .u32 0) 4 r2.2 v5 v5).bind fun r6=>G7 r1.1 r2.1 r6.1 (.int .i64 0) r6.2 (KN (aE ae.P f75.results.toList)):=
(bj ae 75 [a0,a1] m (fn:=f75) (c:=aB f75) qkh rfl).trans (by kernel_rfl)
theorem RS (x0 x1 x5 x6:AV) (m:af) (K:KT):G7 x0 x1 x5 x6 m K=(aK false x0).bind fun v1=>(ag .other .lss x6 v1).bind fun v2=>aw v2 (G8 x0 x1 x5 x6 (.int .u64 0) (.int .i64 0) m (KO K)) (K (.exit 0) (LO x5 m)):=
(bW (bP _) _ _ _).trans (by kernel_rfl)
theorem RT (x0 x1 x5 x6 x7 x8:AV) (m:af) (K:KT):G8 x0 x1 x5 x6 x7 x8 m K=(aK false x1).bind fun v1=>(ag .other .lss x8 v1).bind fun v2=>aw v2 ((aF none x0 x6).bind fun v3=>(ai none m v3).bind fun v4=>(bq .u64 v4).bind fun v5=>(aF none x1 x8).bind fun v6=>(ai none m v6).bind fun v7=>(bq .u64 v7).bind fun v8=>(ag .other .mul v5 v8).bind fun v9=>(ag .other .add x6 x8).bind fun v10=>(aF none x5 v10).bind fun v11=>(ai none m v11).bind fun v12=>(bq .u64 v12).bind fun bh=>(ag .other .add v9 bh).bind fun bg=>(ag .other .add bg x7).bind fun bo=>(ag .other .add x6 x8).bind fun bL=>(ag .other .rem bo (.int .u64 4294967296)).bind fun bD=>(bq .u32 bD).bind fun dQ=>(aF none x5 bL).bind fun c8=>(aM none m c8 dQ).bind fun m20=>(ag .other .quo bo (.int .u64 4294967296)).bind fun v21=>(ag .other .add x8 (.int .i64 1)).bind fun v22=>G8 x0 x1 x5 x6 v21 v22 m20 K) (K (.exit 2) (LP x0 x1 x5 x6 x7 m)):=
(bW (bP _) _ _ _).trans (by kernel_rfl)
theorem qfc (x5:AV) (m:af):KN (aE ae.P f75.results.toList) (.exit 0) (LO x5 m)=(aC (AP ae) none m 133 [x5]).bind fun r1=>some (r1.1,r1.2):=by kernel_rfl
theorem qfh (x0 x1 x5 x6 x7:AV) (m:af) (K:KT):KO K (.exit 2) (LP x0 x1 x5 x6 x7 m)=(aK false x1).bind fun v1=>(ag .other .add x6 v1).bind fun v2=>(bq .u32 x7).bind fun v3=>(aF none x5 v2).bind fun v4=>(aM none m v4 v3).bind fun m5=>(ag .other .add x6 (.int .i64 1)).bind fun v6=>G7 x0 x1 x5 v6 m5 K:=by kernel_rfl
def Ht (x5:AV) (m:af):St:=⟨(aO (aG (x5::bA (aO (aJ []))))),m⟩
def uH (x0 x1 x5 x6 x7:AV) (m:af) (K:KT):OM:=bX 76 (b6 (c2 (c2 (c2 (aB f76))))) 4 (x0::x1::aJ (aG (x5::x6::x7::bA (aO [])))) m K
abbrev qfi (K:KT):KT:=bF 76 (bm (aB f76)) K
abbrev qfj (K:KT):KT:=bu 0 (qfi K)
abbrev KP (K:KT):KT:=(qfj K)
theorem T76 (a0 a1:AV) (m:af):AC ae 76 [a0,a1] m=uH a0 a1 aq (.int .u64 0) (.int .i64 0) m (KP (aE ae.P f76.results.toList)):=
(bj ae 76 [a0,a1] m (fn:=f76) (c:=aB f76) qki rfl).trans (by kernel_rfl)
theorem KW (x0 x1 x5 x6 x7:AV) (m:af) (K:KT):uH x0 x1 x5 x6 x7 m K=(aK false x0).bind fun v1=>(ag .other .lss x7 v1).bind fun v2=>aw v2 ((aC (AP ae) none m 135 [x0,x7]).bind fun r3=>(aC (AP ae) none r3.2 135 [x1,x7]).bind fun r4=>(ag .other .add r3.1 r4.1).bind fun v5=>(ag .other .add v5 x6).bind fun v6=>(ag .other .rem v6 (.int .u64 4294967296)).bind fun v7=>(bq .u32 v7).bind fun v8=>(dH none [v8]).bind fun v9=>(ck none false 161 none 4 r4.2 x5 v9).bind fun ij=>(ag .other .quo v6 (.int .u64 4294967296)).bind fun v11=>(ag .other .add x7 (.int .i64 1)).bind fun v12=>uH x0 x1 ij.1 v11 v12 ij.2 K) ((aK false x1).bind fun bh=>(ag .other .lss x7 bh).bind fun bg=>aw bg ((aC (AP ae) none m 135 [x0,x7]).bind fun mD=>(aC (AP ae) none mD.2 135 [x1,x7]).bind fun fJ=>(ag .other .add mD.1 fJ.1).bind fun bD=>(ag .other .add bD x6).bind fun dQ=>(ag .other .rem dQ (.int .u64 4294967296)).bind fun c8=>(bq .u32 c8).bind fun v20=>(dH none [v20]).bind fun v21=>(ck none false 161 none 4 fJ.2 x5 v21).bind fun rK=>(ag .other .quo dQ (.int .u64 4294967296)).bind fun v23=>(ag .other .add x7 (.int .i64 1)).bind fun v24=>uH x0 x1 rK.1 v23 v24 rK.2 K) ((ag .other .gtr x6 (.int .u64 0)).bind fun v25=>aw v25 ((aC (AP ae) none m 135 [x0,x7]).bind fun qT=>(aC (AP ae) none qT.2 135 [x1,x7]).bind fun YW=>(ag .other .add qT.1 YW.1).bind fun v28=>(ag .other .add v28 x6).bind fun jS=>(ag .other .rem jS (.int .u64 4294967296)).bind fun v30=>(bq .u32 v30).bind fun v31=>(dH none [v31]).bind fun lW=>(ck none false 161 none 4 YW.2 x5 lW).bind fun E6=>(ag .other .quo jS (.int .u64 4294967296)).bind fun pW=>(ag .other .add x7 (.int .i64 1)).bind fun mG=>uH x0 x1 E6.1 pW mG E6.2 K) (K (.exit 0) (Ht x5 m)))):=
(bW (bP _) _ _ _).trans (by kernel_rfl)
theorem qfk (x5:AV) (m:af):KP (aE ae.P f76.results.toList) (.exit 0) (Ht x5 m)=(aC (AP ae) none m 133 [x5]).bind fun r1=>some (r1.1,r1.2):=by kernel_rfl
def LQ (m:af):St:=⟨(bA (aX (aO (aG [])))),m⟩
def HC (x4:AV) (m:af):St:=⟨(aO (x4::bA (aX []))),m⟩
def G9 (x0 x1 x5:AV) (m:af) (K:KT):OM:=bX 77 (b6 (c2 (c2 (c2 (aB f77))))) 7 (x0::x1::aJ (aG (x5::bA (aO (aJ (aG [])))))) m K
abbrev qfl (K:KT):KT:=bF 77 (bm (aB f77)) K
abbrev qfm (K:KT):KT:=bu 0 (qfl K)
abbrev Gm (K:KT):KT:=(qfm K)
theorem T77 (a0 a1:AV) (m:af):AC ae 77 [a0,a1] m=(aC (AP ae) none m 133 [a0]).bind fun r1=>(aC (AP ae) none r1.2 133 [a1]).bind fun r2=>(aK false r1.1).bind fun v3=>(aK false r2.1).bind fun v4=>(ag .other .neq v3 v4).bind fun v5=>aw v5 ((aK false r1.1).bind fun v6=>(aK false r2.1).bind fun v7=>(ag .other .lss v6 v7).bind fun v8=>aw v8 (some ((.int .i64 (-1)),r2.2)) (some ((.int .i64 1),r2.2))) ((aK false r1.1).bind fun v9=>(ag .other .sub v9 (.int .i64 1)).bind fun v10=>G9 r1.1 r2.1 v10 r2.2 (Gm (aE ae.P f77.results.toList))):=
(bj ae 77 [a0,a1] m (fn:=f77) (c:=aB f77) qkj rfl).trans (by kernel_rfl)
theorem RW (x0 x1 x5:AV) (m:af) (K:KT):G9 x0 x1 x5 m K=(ag .other .geq x5 (.int .i64 0)).bind fun v1=>aw v1 ((aF none x0 x5).bind fun v2=>(ai none m v2).bind fun v3=>(aF none x1 x5).bind fun v4=>(ai none m v4).bind fun v5=>(ag .other .neq v3 v5).bind fun v6=>aw v6 ((aF none x0 x5).bind fun v7=>(ai none m v7).bind fun v8=>(aF none x1 x5).bind fun v9=>(ai none m v9).bind fun v10=>(ag .other .lss v8 v10).bind fun v11=>aw v11 (K .ret (HC (.int .i64 (-1)) m)) (K .ret (HC (.int .i64 1) m))) ((ag .other .sub x5 (.int .i64 1)).bind fun v12=>G9 x0 x1 v12 m K)) (K (.exit 0) (LQ m)):=
(bW (bP _) _ _ _).trans (by kernel_rfl)
theorem qfo (m:af):Gm (aE ae.P f77.results.toList) (.exit 0) (LQ  m)=some ((.int .i64 0),m):=by kernel_rfl
theorem qfn (x4:AV) (m:af):Gm (aE ae.P f77.results.toList) .ret (HC x4 m)=some (x4,m):=by kernel_rfl
def LR (x6:AV) (m:af):St:=⟨(aO (aJ (x6::bA (aO (aG []))))),m⟩
def C6 (x0 x1 x6 x7 x8:AV) (m:af) (K:KT):OM:=bX 78 (b6 (bm (aB f78))) 6 (x0::x1::aO (x6::x7::x8::bA (aJ (aG [])))) m K
abbrev qfp (K:KT):KT:=bF 78 (bm (c2 (aB f78))) K
abbrev qfq (K:KT):KT:=bu 0 (qfp K)
abbrev QJ (K:KT):KT:=(qfq K)
theorem SN (a0 a1:AV) (m:af):AC ae 78 [a0,a1] m=(aC (AP ae) none m 77 [a0,a1]).bind fun r1=>(ag .other .lss r1.1 (.int .i64 0)).bind fun v2=>aw v2 (some ((.tup [aq,(.int .i64 1)]),r1.2)) (C6 a0 a1 aq (.int .u64 0) (.int .i64 0) r1.2 (QJ (aE ae.P f78.results.toList))):=
(bj ae 78 [a0,a1] m (fn:=f78) (c:=aB f78) qkk rfl).trans (by kernel_rfl)
theorem RX (x0 x1 x6 x7 x8:AV) (m:af) (K:KT):C6 x0 x1 x6 x7 x8 m K=(aK false x0).bind fun v1=>(ag .other .lss x8 v1).bind fun v2=>aw v2 ((aC (AP ae) none m 135 [x1,x8]).bind fun r3=>(ag .other .add r3.1 x7).bind fun v4=>(aC (AP ae) none r3.2 135 [x0,x8]).bind fun r5=>(ag .other .lss r5.1 v4).bind fun v6=>aw v6 ((aC (AP ae) none r5.2 135 [x0,x8]).bind fun r7=>(ag .other .mul (.int .u64 1) (.int .u64 4294967296)).bind fun v8=>(ag .other .add r7.1 v8).bind fun v9=>(ag .other .sub v9 v4).bind fun v10=>(bq .u32 v10).bind fun v11=>(dH none [v11]).bind fun v12=>(ck none false 161 none 4 r7.2 x6 v12).bind fun gh=>(ag .other .add x8 (.int .i64 1)).bind fun bg=>C6 x0 x1 gh.1 (.int .u64 1) bg gh.2 K) ((aC (AP ae) none r5.2 135 [x0,x8]).bind fun mD=>(ag .other .mul (.int .u64 0) (.int .u64 4294967296)).bind fun bL=>(ag .other .add mD.1 bL).bind fun bD=>(ag .other .sub bD v4).bind fun dQ=>(bq .u32 dQ).bind fun c8=>(dH none [c8]).bind fun v20=>(ck none false 161 none 4 mD.2 x6 v20).bind fun uu=>(ag .other .add x8 (.int .i64 1)).bind fun v22=>C6 x0 x1 uu.1 (.int .u64 0) v22 uu.2 K)) (K (.exit 0) (LR x6 m)):=
(bW (bP _) _ _ _).trans (by kernel_rfl)
theorem qfr (x6:AV) (m:af):QJ (aE ae.P f78.results.toList) (.exit 0) (LR x6 m)=(aC (AP ae) none m 133 [x6]).bind fun r1=>some ((.tup [r1.1,(.int .i64 0)]),r1.2):=by kernel_rfl
def K7 (x5:AV) (m:af):St:=⟨(aO (aG (x5::bp (aX (aO (aJ [])))))),m⟩
def Gy (x5 x7:AV) (m:af) (K:KT):OM:=bX 119 (UL (p7 (c2 (c2 (aB f119))))) 5 (aO (aG (x5::aG (x7::bp (aX (aO [])))))) m K
def Hm (x0 x1 x9:AV) (m:af):St:=⟨(x0::x1::aO (aJ (aG (x9::bp (aX (aJ [])))))),m⟩
def An (x0 x1 x9:AV) (m:af) (K:KT):OM:=bX 119 (nM (bm (c2 (c2 (c2 (aB f119)))))) 13 (x0::x1::aO (aJ (aG (x9::bp (aX (aJ [])))))) m K
def K4 (x0 x9:AV) (m:af):St:=⟨(x0::aX (x9::bp (aX (aJ [])))),m⟩
def CN (x0 x1 x9:AV) (m:af) (K:KT):OM:=bX 119 (nM (bm (bm (aB f119)))) 15 (x0::x1::aO (aJ (aG (x9::bp (aX (aJ [])))))) m K
def K5 (x0 x1 x9:AV) (m:af):St:=⟨(x0::x1::aO (aJ (aG (x9::bp (aX (aJ [])))))),m⟩
def Gw (x0 x1 x9:AV) (m:af) (K:KT):OM:=bX 119 (UL (qlb (bm (bm (c2 (aB f119)))))) 16 (x0::x1::aO (aJ (aG (x9::bp (aX (aJ [])))))) m K
def K6 (x0 x1 x9:AV) (m:af):St:=⟨(x0::x1::aO (aJ (aG (x9::bp (aX (aJ [])))))),m⟩
def Gx (x0 x1 x9:AV) (m:af) (K:KT):OM:=bX 119 (nM (H8 (A5 (bm (c2 (c2 (aB f119))))))) 18 (x0::x1::aO (aJ (aG (x9::bp (aX (aJ [])))))) m K
abbrev qbs (K:KT):KT:=bF 119 (bm (c2 (aB f119))) K
abbrev qbt (K:KT):KT:=bF 119 (DQ (bm (aB f119))) (qbs K)
abbrev qbu (K:KT):KT:=bu 0 (qbt K)
abbrev QB (K:KT):KT:=(qbu K)
abbrev qbe (K:KT):KT:=bF 119 (bm (bm (c2 (aB f119)))) K
abbrev qbf (K:KT):KT:=bu 2 (qbe K)
abbrev CB (K:KT):KT:=(qbf K)
abbrev qbk (K:KT):KT:=bu 5 (nY 119 (nM (bm (bm (aB f119)))) 15 K)
abbrev qbl (K:KT):KT:=bF 119 (DQ (tO (bm (c2 (c2 (c2 (aB f119))))))) (qbk K)
abbrev qbm (K:KT):KT:=bu 6 (qbl K)
abbrev Ki (K:KT):KT:=(qbm K)
abbrev qbh (K:KT):KT:=bF 119 (bm (bm (c2 (c2 (aB f119))))) K
abbrev qbi (K:KT):KT:=bu 4 (qbh K)
abbrev QA (K:KT):KT:=(qbi K)
abbrev qbo (K:KT):KT:=bu 5 (nY 119 (nM (bm (bm (aB f119)))) 15 K)
abbrev qbp (K:KT):KT:=bF 119 (MG (nM (bm (bm (aB f119))))) (qbo K)
abbrev qbq (K:KT):KT:=bu 8 (qbp K)
abbrev Kj (K:KT):KT:=(qbq K)
theorem qgr (a0 a1:AV) (m:af):AC ae 119 [a0,a1] m=(aC (AP ae) none m 133 [a0]).bind fun r1=>(aC (AP ae) none r1.2 133 [a1]).bind fun r2=>(aC (AP ae) none r2.2 155 [r1.1]).bind fun r3=>(aZ r3.1 0).bind fun v4=>(aZ r3.1 1).bind fun v5=>(aC (AP ae) none r3.2 155 [r2.1]).bind fun r6=>(aZ r6.1 0).bind fun v7=>(aZ r6.1 1).bind fun v8=>aw v5 (aw v8 (Gy v4 v7 r6.2 (QB (aE ae.P f119.results.toList))) ((aK false r1.1).bind fun v9=>(ag .other .eql v9 (.int .i64 0)).bind fun v10=>aw v10 (some (r2.1,r6.2)) ((aK false r2.1).bind fun v11=>(ag .other .eql v11 (.int .i64 0)).bind fun v12=>aw v12 (some (r1.1,r6.2)) ((aC (AP ae) none r6.2 72 [(.int .u64 1)]).bind fun gh=>An r1.1 r2.1 gh.1 gh.2 (CB (aE ae.P f119.results.toList)))))) ((aK false r1.1).bind fun bg=>(ag .other .eql bg (.int .i64 0)).bind fun bo=>aw bo (some (r2.1,r6.2)) ((aK false r2.1).bind fun bL=>(ag .other .eql bL (.int .i64 0)).bind fun bD=>aw bD (some (r1.1,r6.2)) ((aC (AP ae) none r6.2 72 [(.int .u64 1)]).bind fun gQ=>An r1.1 r2.1 gQ.1 gQ.2 (CB (aE ae.P f119.results.toList))))):=
(bj ae 119 [a0,a1] m (fn:=f119) (c:=aB f119) qiO rfl).trans (by kernel_rfl)
theorem qfP (x5 x7:AV) (m:af) (K:KT):Gy x5 x7 m K=(ag .other .neq x7 (.int .u64 0)).bind fun v1=>aw v1 ((ag .other .rem x5 x7).bind fun v2=>Gy x7 v2 m K) (K (.exit 0) (K7 x5 m)):=
(bW (bP _) _ _ _).trans (by kernel_rfl)
theorem qfL (x0 x1 x9:AV) (m:af) (K:KT):An x0 x1 x9 m K=(aC (AP ae) none m 156 [x0]).bind fun r1=>aw r1.1 ((aC (AP ae) none r1.2 156 [x1]).bind fun r2=>aw r2.1 ((aC (AP ae) none r2.2 157 [x0]).bind fun r3=>(aC (AP ae) none r3.2 157 [x1]).bind fun r4=>(aC (AP ae) none r4.2 76 [x9,x9]).bind fun r5=>An r3.1 r4.1 r5.1 r5.2 K) (K (.exit 2) (Hm x0 x1 x9 r2.2))) (K (.exit 2) (Hm x0 x1 x9 r1.2)):=
(bW (bP _) _ _ _).trans (by kernel_rfl)
theorem qfM (x0 x1 x9:AV) (m:af) (K:KT):CN x0 x1 x9 m K=(aK false x1).bind fun v1=>(ag .other .gtr v1 (.int .i64 0)).bind fun v2=>aw v2 (Gw x0 x1 x9 m (Ki K)) (K (.exit 4) (K4 x0 x9 m)):=
(bW (bP _) _ _ _).trans (by kernel_rfl)
theorem qfN (x0 x1 x9:AV) (m:af) (K:KT):Gw x0 x1 x9 m K=(aC (AP ae) none m 156 [x0]).bind fun r1=>aw r1.1 ((aC (AP ae) none r1.2 157 [x0]).bind fun r2=>Gw r2.1 x1 x9 r2.2 K) (K (.exit 6) (K5 x0 x1 x9 r1.2)):=
(bW (bP _) _ _ _).trans (by kernel_rfl)
theorem qfO (x0 x1 x9:AV) (m:af) (K:KT):Gx x0 x1 x9 m K=(aC (AP ae) none m 156 [x1]).bind fun r1=>aw r1.1 ((aC (AP ae) none r1.2 157 [x1]).bind fun r2=>Gx x0 r2.1 x9 r2.2 K) (K (.exit 8) (K6 x0 x1 x9 r1.2)):=
(bW (bP _) _ _ _).trans (by kernel_rfl)
theorem qbv (x5:AV) (m:af):QB (aE ae.P f119.results.toList) (.exit 0) (K7 x5 m)=(aC (AP ae) none m 72 [x5]).bind fun r1=>some (r1.1,r1.2):=by kernel_rfl
theorem qbg (x0 x1 x9:AV) (m:af):CB (aE ae.P f119.results.toList) (.exit 2) (Hm x0 x1 x9 m)=CN x0 x1 x9 m (QA (aE ae.P f119.results.toList)):=by kernel_rfl
theorem qbn (x0 x1 x9:AV) (m:af) (K:KT):Ki K (.exit 6) (K5 x0 x1 x9 m)=Gx x0 x1 x9 m (Kj K):=by kernel_rfl
theorem qbj (x0 x9:AV) (m:af):QA (aE ae.P f119.results.toList) (.exit 4) (K4 x0 x9 m)=(aC (AP ae) none m 75 [x0,x9]).bind fun r1=>some (r1.1,r1.2):=by kernel_rfl
theorem qbr (x0 x1 x9:AV) (m:af) (K:KT):Kj K (.exit 8) (K6 x0 x1 x9 m)=(aC (AP ae) none m 77 [x0,x1]).bind fun r1=>(ag .other .gtr r1.1 (.int .i64 0)).bind fun v2=>aw v2 ((aC (AP ae) none r1.2 78 [x0,x1]).bind fun r3=>(aZ r3.1 0).bind fun v4=>(aZ r3.1 1).bind fun v5=>CN x1 v4 x9 r3.2 K) ((aC (AP ae) none r1.2 78 [x1,x0]).bind fun r6=>(aZ r6.1 0).bind fun v7=>(aZ r6.1 1).bind fun v8=>CN x0 v7 x9 r6.2 K):=by kernel_rfl
def Ho (x0 x3:AV) (m:af):St:=⟨(x0::aJ (x3::bw (aJ []))),m⟩
def GH (x0 x3:AV) (m:af) (K:KT):OM:=bX 133 (nM (c2 (aB f133))) 2 (x0::aJ (x3::bw (aJ []))) m K
abbrev qb8 (K:KT):KT:=bF 133 (c2 (c2 (c2 (aB f133)))) K
abbrev qb9 (K:KT):KT:=bu 0 (qb8 K)
abbrev QD (K:KT):KT:=(qb9 K)
theorem qgC (a0:AV) (m:af):AC ae 133 [a0] m=(aK false a0).bind fun v1=>GH a0 v1 m (QD (aE ae.P f133.results.toList)):=
(bj ae 133 [a0] m (fn:=f133) (c:=aB f133) qi0 rfl).trans (by kernel_rfl)
theorem Q4 (x0 x3:AV) (m:af) (K:KT):GH x0 x3 m K=(ag .other .gtr x3 (.int .i64 0)).bind fun v1=>aw v1 ((ag .other .sub x3 (.int .i64 1)).bind fun v2=>(aF none x0 v2).bind fun v3=>(ai none m v3).bind fun v4=>(ag .other .eql v4 (.int .u32 0)).bind fun v5=>aw v5 ((ag .other .sub x3 (.int .i64 1)).bind fun v6=>GH x0 v6 m K) (K (.exit 0) (Ho x0 x3 m))) (K (.exit 0) (Ho x0 x3 m)):=
(bW (bP _) _ _ _).trans (by kernel_rfl)
theorem qca (x0 x3:AV) (m:af):QD (aE ae.P f133.results.toList) (.exit 0) (Ho x0 x3 m)=(n5 none x0 none (some x3) none).bind fun v1=>(ck none false 161 none 4 m aq v1).bind fun r2=>some (r2.1,r2.2):=by kernel_rfl
theorem qgE (a0 a1:AV) (m:af):AC ae 135 [a0,a1] m=(aK false a0).bind fun v1=>(ag .other .lss a1 v1).bind fun v2=>aw v2 ((aF none a0 a1).bind fun v3=>(ai none m v3).bind fun v4=>(bq .u64 v4).bind fun v5=>some (v5,m)) (some ((.int .u64 0),m)):=
(bj ae 135 [a0,a1] m (fn:=f135) (c:=aB f135) qi2 rfl).trans (by kernel_rfl)
def Lg (x3:AV) (m:af):St:=⟨(aJ (aG (x3::bw (aO (aJ (aG [])))))),m⟩
def GI (x3 x4:AV) (m:af) (K:KT):OM:=bX 136 (b6 (bm (aB f136))) 6 (aJ (aG (x3::x4::bw (aO (aJ []))))) m K
abbrev qcb (K:KT):KT:=bF 136 (bm (c2 (aB f136))) K
abbrev qcc (K:KT):KT:=bu 0 (qcb K)
abbrev Kq (K:KT):KT:=(qcc K)
theorem SF (a0:AV) (m:af):AC ae 136 [a0] m=(aC (AP ae) none m 133 [a0]).bind fun r1=>(aK false r1.1).bind fun v2=>(ag .other .eql v2 (.int .i64 0)).bind fun v3=>aw v3 (some ((.int .i64 0),r1.2)) ((aK false r1.1).bind fun v4=>(ag .other .sub v4 (.int .i64 1)).bind fun v5=>(ag .other .mul (.int .i64 32) v5).bind fun v6=>(aK false r1.1).bind fun v7=>(ag .other .sub v7 (.int .i64 1)).bind fun v8=>(aF none r1.1 v8).bind fun v9=>(ai none r1.2 v9).bind fun v10=>GI v6 v10 r1.2 (Kq (aE ae.P f136.results.toList))):=
(bj ae 136 [a0] m (fn:=f136) (c:=aB f136) qi3 rfl).trans (by kernel_rfl)
theorem Q5 (x3 x4:AV) (m:af) (K:KT):GI x3 x4 m K=(ag .other .gtr x4 (.int .u32 0)).bind fun v1=>aw v1 ((ag .other .add x3 (.int .i64 1)).bind fun v2=>(ag .other .quo x4 (.int .u32 2)).bind fun v3=>GI v2 v3 m K) (K (.exit 0) (Lg x3 m)):=
(bW (bP _) _ _ _).trans (by kernel_rfl)
theorem qcd (x3:AV) (m:af):Kq (aE ae.P f136.results.toList) (.exit 0) (Lg x3 m)=some (x3,m):=by kernel_rfl
def Lh (x0 x9:AV) (m:af):St:=⟨(x0::aX (x9::bp (bw (aX [])))),m⟩
def GJ (x0 x1 x9 aH:AV) (m:af) (K:KT):OM:=bX 137 (b6 (bm (c2 (c2 (aB f137))))) 11 (x0::x1::aO (aJ (aG (x9::aH::bp (bw (aO (aJ (aG [])))))))) m K
def Li (x0 x1 x9 aH aY:AV) (m:af):St:=⟨(x0::x1::aO (aJ (aG (x9::aH::aY::bp (bw (aO (aJ []))))))),m⟩
def CQ (x0 x1 x9 aH aY aN:AV) (m:af) (K:KT):OM:=bX 137 (nM (b6 (np (bm (c2 (aB f137)))))) 14 (x0::x1::aO (aJ (aG (x9::aH::aY::aN::bp (bw (aO (aG []))))))) m K
abbrev qce (K:KT):KT:=bF 137 (bm (c2 (c2 (c2 (aB f137))))) K
abbrev qcf (K:KT):KT:=bu 0 (qce K)
abbrev Kr (K:KT):KT:=(qcf K)
abbrev qch (K:KT):KT:=bF 137 (l9 (p7 (bm (aB f137)))) (nY 137 (b6 (bm (c2 (c2 (aB f137))))) 11 K)
abbrev qci (K:KT):KT:=bu 1 (qch K)
abbrev qcj (K:KT):KT:=bF 137 (l9 (tP (A5 (c2 (c2 (c2 (aB f137))))))) (qci K)
abbrev qck (K:KT):KT:=bu 2 (qcj K)
abbrev Ks (K:KT):KT:=(qck K)
theorem HF (a0 a1:AV) (m:af):AC ae 137 [a0,a1] m=(aC (AP ae) none m 133 [a0]).bind fun r1=>(aC (AP ae) none r1.2 133 [a1]).bind fun r2=>(aK false r2.1).bind fun v3=>(ag .other .eql v3 (.int .i64 0)).bind fun v4=>aw v4 (some ((.tup [aq,aq,(.int .i64 31)]),r2.2)) ((aK false r2.1).bind fun v5=>(ag .other .eql v5 (.int .i64 1)).bind fun v6=>aw v6 ((aF none r2.1 (.int .i64 0)).bind fun v7=>(ai none r2.2 v7).bind fun v8=>(bq .u64 v8).bind fun v9=>(aC (AP ae) none r2.2 170 [r1.1,v9]).bind fun ij=>(aZ ij.1 0).bind fun v11=>(aZ ij.1 1).bind fun v12=>(aC (AP ae) none ij.2 72 [v12]).bind fun gh=>some ((.tup [v11,gh.1,(.int .i64 0)]),gh.2)) ((aK false r1.1).bind fun bg=>(aK false r2.1).bind fun bo=>(ag .other .lss bg bo).bind fun bL=>aw bL (some ((.tup [aq,r1.1,(.int .i64 0)]),r2.2)) ((aK false r1.1).bind fun bD=>(jc none 161 none (.int .u32 0) 4 r2.2 bD bD).bind fun gQ=>(aK false r1.1).bind fun c8=>(aK false r2.1).bind fun v20=>(ag .other .sub c8 v20).bind fun v21=>GJ r1.1 r2.1 gQ.1 v21 gQ.2 (Kr (aE ae.P f137.results.toList))))):=
(bj ae 137 [a0,a1] m (fn:=f137) (c:=aB f137) qi4 rfl).trans (by kernel_rfl)
theorem Q6 (x0 x1 x9 aH:AV) (m:af) (K:KT):GJ x0 x1 x9 aH m K=(ag .other .geq aH (.int .i64 0)).bind fun v1=>aw v1 ((aC (AP ae) none m 171 [x0,x1,aH]).bind fun r2=>(aZ r2.1 0).bind fun v3=>(aZ r2.1 1).bind fun v4=>CQ x0 x1 x9 aH v3 v4 r2.2 (Ks K)) (K (.exit 0) (Lh x0 x9 m)):=
(bW (bP _) _ _ _).trans (by kernel_rfl)
theorem Q7 (x0 x1 x9 aH aY aN:AV) (m:af) (K:KT):CQ x0 x1 x9 aH aY aN m K=(ag .other .lss aY aN).bind fun v1=>aw v1 ((ag .other .sub aN aY).bind fun v2=>(ag .other .add v2 (.int .u64 1)).bind fun v3=>(ag .other .quo v3 (.int .u64 2)).bind fun v4=>(ag .other .add aY v4).bind fun v5=>(aC (AP ae) none m 172 [x1,v5,aH]).bind fun r6=>(aC (AP ae) none r6.2 77 [r6.1,x0]).bind fun r7=>(ag .other .leq r7.1 (.int .i64 0)).bind fun v8=>aw v8 (CQ x0 x1 x9 aH v5 aN r7.2 K) ((ag .other .sub v5 (.int .u64 1)).bind fun v9=>CQ x0 x1 x9 aH aY v9 r7.2 K)) (K (.exit 2) (Li x0 x1 x9 aH aY m)):=
(bW (bP _) _ _ _).trans (by kernel_rfl)
theorem qcg (x0 x9:AV) (m:af):Kr (aE ae.P f137.results.toList) (.exit 0) (Lh x0 x9 m)=(aC (AP ae) none m 133 [x9]).bind fun r1=>some ((.tup [r1.1,x0,(.int .i64 0)]),r1.2):=by kernel_rfl
theorem qcl (x0 x1 x9 aH aY:AV) (m:af) (K:KT):Ks K (.exit 2) (Li x0 x1 x9 aH aY m)=(bq .u32 aY).bind fun v1=>(aF none x9 aH).bind fun v2=>(aM none m v2 v1).bind fun m3=>(aC (AP ae) none m3 172 [x1,aY,aH]).bind fun r4=>(aC (AP ae) none r4.2 78 [x0,r4.1]).bind fun r5=>(aZ r5.1 0).bind fun v6=>(aZ r5.1 1).bind fun v7=>(ag .other .sub aH (.int .i64 1)).bind fun v8=>GJ v6 x1 x9 v8 r5.2 K:=by kernel_rfl
theorem qgO (a0:AV) (m:af):AC ae 155 [a0] m=(aC (AP ae) none m 133 [a0]).bind fun r1=>(aK false r1.1).bind fun v2=>(ag .other .eql v2 (.int .i64 0)).bind fun v3=>aw v3 (some ((.tup [(.int .u64 0),(.bool true)]),r1.2)) ((ag .other .eql v2 (.int .i64 1)).bind fun v4=>aw v4 ((aF none r1.1 (.int .i64 0)).bind fun v5=>(ai none r1.2 v5).bind fun v6=>(bq .u64 v6).bind fun v7=>some ((.tup [v7,(.bool true)]),r1.2)) ((ag .other .eql v2 (.int .i64 2)).bind fun v8=>aw v8 ((aF none r1.1 (.int .i64 1)).bind fun v9=>(ai none r1.2 v9).bind fun v10=>(bq .u64 v10).bind fun v11=>(ag .other .shl v11 (.int .u64 32)).bind fun v12=>(aF none r1.1 (.int .i64 0)).bind fun bh=>(ai none r1.2 bh).bind fun bg=>(bq .u64 bg).bind fun bo=>(ag .other .or v12 bo).bind fun bL=>some ((.tup [bL,(.bool true)]),r1.2)) (some ((.tup [(.int .u64 0),(.bool false)]),r1.2)))):=
(bj ae 155 [a0] m (fn:=f155) (c:=aB f155) qji rfl).trans (by kernel_rfl)
theorem qgP (a0:AV) (m:af):AC ae 156 [a0] m=(aC (AP ae) none m 135 [a0,(.int .i64 0)]).bind fun r1=>(ag .other .rem r1.1 (.int .u64 2)).bind fun v2=>(ag .other .eql v2 (.int .u64 0)).bind fun v3=>some (v3,r1.2):=
(bj ae 156 [a0] m (fn:=f156) (c:=aB f156) qjj rfl).trans (by kernel_rfl)
theorem qgQ (a0:AV) (m:af):AC ae 157 [a0] m=(aC (AP ae) none m 133 [a0]).bind fun r1=>(aC (AP ae) none r1.2 170 [r1.1,(.int .u64 2)]).bind fun r2=>(aZ r2.1 0).bind fun v3=>(aZ r2.1 1).bind fun v4=>some (v3,r2.2):=
(bj ae 157 [a0] m (fn:=f157) (c:=aB f157) qjk rfl).trans (by kernel_rfl)
def Ll (x6 x7:AV) (m:af):St:=⟨(aO (aJ (x6::x7::bA (aG [])))),m⟩
def GU (x0 x1 x6 x7 x8:AV) (m:af) (K:KT):OM:=bX 170 (b6 (c2 (c2 (c2 (aB f170))))) 4 (x0::x1::aO (x6::x7::x8::bA [])) m K
abbrev qc3 (K:KT):KT:=bF 170 (bm (aB f170)) K
abbrev qc4 (K:KT):KT:=bu 0 (qc3 K)
abbrev Kz (K:KT):KT:=(qc4 K)
theorem qgV (a0 a1:AV) (m:af):AC ae 170 [a0,a1] m=(aK false a0).bind fun v1=>(jc none 161 none (.int .u32 0) 4 m v1 v1).bind fun r2=>(aK false a0).bind fun v3=>(ag .other .sub v3 (.int .i64 1)).bind fun v4=>GU a0 a1 r2.1 (.int .u64 0) v4 r2.2 (Kz (aE ae.P f170.results.toList)):=
(bj ae 170 [a0,a1] m (fn:=f170) (c:=aB f170) qjt rfl).trans (by kernel_rfl)
theorem Rl (x0 x1 x6 x7 x8:AV) (m:af) (K:KT):GU x0 x1 x6 x7 x8 m K=(ag .other .geq x8 (.int .i64 0)).bind fun v1=>aw v1 ((ag .other .mul x7 (.int .u64 4294967296)).bind fun v2=>(aF none x0 x8).bind fun v3=>(ai none m v3).bind fun v4=>(bq .u64 v4).bind fun v5=>(ag .other .add v2 v5).bind fun v6=>(ag .other .quo v6 x1).bind fun v7=>(bq .u32 v7).bind fun v8=>(aF none x6 x8).bind fun v9=>(aM none m v9 v8).bind fun m10=>(ag .other .rem v6 x1).bind fun v11=>(ag .other .sub x8 (.int .i64 1)).bind fun v12=>GU x0 x1 x6 v11 v12 m10 K) (K (.exit 0) (Ll x6 x7 m)):=
(bW (bP _) _ _ _).trans (by kernel_rfl)
theorem qc5 (x6 x7:AV) (m:af):Kz (aE ae.P f170.results.toList) (.exit 0) (Ll x6 x7 m)=(aC (AP ae) none m 133 [x6]).bind fun r1=>some ((.tup [r1.1,x7]),r1.2):=by kernel_rfl
theorem qgW (a0 a1 a2:AV) (m:af):AC ae 171 [a0,a1,a2] m=(aK false a1).bind fun v1=>(ag .other .add a2 v1).bind fun v2=>(aC (AP ae) (some m.length) m 135 [a0,v2]).bind fun r3=>(ag .other .shl r3.1 (.int .u64 32)).bind fun v4=>(ag .other .add a2 v1).bind fun v5=>(ag .other .sub v5 (.int .i64 1)).bind fun v6=>(aC (AP ae) (some m.length) r3.2 135 [a0,v6]).bind fun r7=>(ag .other .or v4 r7.1).bind fun v8=>(ag .other .sub v1 (.int .i64 1)).bind fun v9=>(aF none a1 v9).bind fun v10=>(ai none r7.2 v10).bind fun v11=>(bq .u64 v11).bind fun v12=>(ag .other .quo v8 v12).bind fun bh=>(ag .other .lss bh (.int .u64 4294967295)).bind fun bg=>aw bg ((ag .other .quo v8 v12).bind fun bo=>(ag .other .add v12 (.int .u64 1)).bind fun bL=>(ag .other .lss bL (.int .u64 4294967296)).bind fun bD=>aw bD ((ag .other .add v12 (.int .u64 1)).bind fun dQ=>(ag .other .quo v8 dQ).bind fun c8=>(ag .other .lss c8 (.int .u64 4294967296)).bind fun v20=>aw v20 ((ag .other .add v12 (.int .u64 1)).bind fun v21=>(ag .other .quo v8 v21).bind fun v22=>(ag .other .gtr v22 bo).bind fun v23=>aw v23 (some ((.tup [bo,bo]),r7.2)) (some ((.tup [v22,bo]),r7.2))) ((ag .other .gtr (.int .u64 0) bo).bind fun v24=>aw v24 (some ((.tup [bo,bo]),r7.2)) (some ((.tup [(.int .u64 0),bo]),r7.2)))) ((ag .other .gtr (.int .u64 0) bo).bind fun v25=>aw v25 (some ((.tup [bo,bo]),r7.2)) (some ((.tup [(.int .u64 0),bo]),r7.2)))) ((ag .other .add v12 (.int .u64 1)).bind fun v26=>(ag .other .lss v26 (.int .u64 4294967296)).bind fun jt=>aw jt ((ag .other .add v12 (.int .u64 1)).bind fun v28=>(ag .other .quo v8 v28).bind fun jS=>(ag .other .lss jS (.int .u64 4294967296)).bind fun v30=>aw v30 ((ag .other .add v12 (.int .u64 1)).bind fun v31=>(ag .other .quo v8 v31).bind fun lW=>(ag .other .gtr lW (.int .u64 4294967295)).bind fun oV=>aw oV (some ((.tup [(.int .u64 4294967295),(.int .u64 4294967295)]),r7.2)) (some ((.tup [lW,(.int .u64 4294967295)]),r7.2))) ((ag .other .gtr (.int .u64 0) (.int .u64 4294967295)).bind fun pW=>aw pW (some ((.tup [(.int .u64 4294967295),(.int .u64 4294967295)]),r7.2)) (some ((.tup [(.int .u64 0),(.int .u64 4294967295)]),r7.2)))) ((ag .other .gtr (.int .u64 0) (.int .u64 4294967295)).bind fun mG=>aw mG (some ((.tup [(.int .u64 4294967295),(.int .u64 4294967295)]),r7.2)) (some ((.tup [(.int .u64 0),(.int .u64 4294967295)]),r7.2)))):=
(bj ae 171 [a0,a1,a2] m (fn:=f171) (c:=aB f171) qju rfl).trans (by kernel_rfl)
def Lm (x7 x8:AV) (m:af):St:=⟨(aO (aJ (aG (x7::x8::bA (aG []))))),m⟩
def GV (x0 x1 x7 x8 x9:AV) (m:af) (K:KT):OM:=bX 172 (b6 (c2 (c2 (c2 (aB f172))))) 4 (x0::x1::aO (aG (x7::x8::x9::bA []))) m K
abbrev qc6 (K:KT):KT:=bF 172 (bm (aB f172)) K
abbrev qc7 (K:KT):KT:=bu 0 (qc6 K)
abbrev QF (K:KT):KT:=(qc7 K)
theorem qgX (a0 a1 a2:AV) (m:af):AC ae 172 [a0,a1,a2] m=(zu none none (.int .u32 0) 4 m a2 a2).bind fun r1=>GV a0 a1 r1.1 (.int .u64 0) (.int .i64 0) r1.2 (QF (aE ae.P f172.results.toList)):=
(bj ae 172 [a0,a1,a2] m (fn:=f172) (c:=aB f172) qjv rfl).trans (by kernel_rfl)
theorem Rm (x0 x1 x7 x8 x9:AV) (m:af) (K:KT):GV x0 x1 x7 x8 x9 m K=(aK false x0).bind fun v1=>(ag .other .lss x9 v1).bind fun v2=>aw v2 ((aF none x0 x9).bind fun v3=>(ai none m v3).bind fun v4=>(bq .u64 v4).bind fun v5=>(ag .other .mul v5 x1).bind fun v6=>(ag .other .add v6 x8).bind fun v7=>(ag .other .rem v7 (.int .u64 4294967296)).bind fun v8=>(bq .u32 v8).bind fun v9=>(dH none [v9]).bind fun v10=>(ck none false 161 none 4 m x7 v10).bind fun jE=>(ag .other .quo v7 (.int .u64 4294967296)).bind fun v12=>(ag .other .add x9 (.int .i64 1)).bind fun bh=>GV x0 x1 jE.1 v12 bh jE.2 K) (K (.exit 0) (Lm x7 x8 m)):=
(bW (bP _) _ _ _).trans (by kernel_rfl)
theorem qc8 (x7 x8:AV) (m:af):QF (aE ae.P f172.results.toList) (.exit 0) (Lm x7 x8 m)=(bq .u32 x8).bind fun v1=>(dH none [v1]).bind fun v2=>(ck none false 161 none 4 m x7 v2).bind fun r3=>(aC (AP ae) none r3.2 133 [r3.1]).bind fun r4=>some (r4.1,r4.2):=by kernel_rfl
end
end Go.Ab
namespace Go.Ab
open Go.Proofs.Tryz
def n0 (m:af) (ds:List Nat):NV:=if ds=[] then ⟨true,.full,[]⟩ else ⟨false,.tok m.length 161,ds⟩
def pw (m:af) (ds:List Nat):af:=if ds=[] then m else n7 m ds.length
def qU (ds:List Nat):NV:=if ds=[] then ⟨true,.full,[]⟩ else ⟨false,.no,ds⟩
theorem qpj (m:af) (ds:List Nat):(n0 m ds).fr=qU ds:=by unfold n0 qU;split<;>rfl
theorem qph (ds:List Nat):(qU ds).fr=qU ds:=by unfold qU;split<;>rfl
theorem xB (ds:List Nat):(qU ds).ds=ds:=by
 unfold qU
 split
 ·rename_i h;rw[h]
 ·rfl
theorem Ng (m:af) (ds:List Nat):Fz (n0 m ds).av (qU ds).av:=by
 have:=cD (n0 m ds)
 rwa [qpj] at this
theorem qpi {ds:List Nat} (h:Dg ds) (h':ds.length < 2 ^ 40):NOk (qU ds):=by
 refine ⟨by rw[xB];exact h,by rw[xB];exact h',?_⟩;unfold qU
 split
 ·intro _;rfl
 ·intro h;cases h
theorem Zg (ds:List Nat):(qU ds).v=val ds:=by rw[NV.v,xB]
theorem oQ {R:Type} {x y:Option R}:aw (.bool true) x y=x:=rfl
theorem oP {R:Type} {x y:Option R}:aw (.bool false) x y=y:=rfl
theorem Ud {m:af} {ds:List Nat} {z:Bool} {o:Own} (h:ds.length * 4<=gS):ck none false 161 none 4 m aq (.lst none z o (ds.map dg))=some ((n0 m ds).av,pw m ds):=by
 cases ds with
 | nil=>rfl
 | cons d ds=>
  have h2:(ds.length+1) * 4<=gS:=by simpa using h
  simp only[n0,pw,NV.av,ck,gg,aL,aQ,cg,br,h2,bz,az,n7,Sh.size,bQ,reduceCtorEq,mo,j6,or_true,br]
theorem Mr {m:af} {ds:List Nat} {v:Nat} (h:(ds.length+1) * 4<=gS):ck none false 161 none 4 (pw m ds) (n0 m ds).av (.lst none false .full [.int .u32 v])=some ((n0 m (ds++[v])).av,pw m (ds++[v])):=by
 cases ds with
 | nil=>exact Ud (ds:=[v]) h
 | cons d ds=>
  have:=DG (e:=161) (b:=4) (m:=m) (es:=(d::ds).map dg) (z:=false) (o:=.full) (y:=.int .u32 v) (by rw[cg];exact h);rw[cg] at this;simp only[n0,pw,reduceCtorEq,mo,NV.av];rw[this];simp[dg,n0,pw]
def bK (n:Nat):NV:=qU (aD n)
theorem jQ (n:Nat):(bK n).fr=bK n:=qph _
theorem ki (n:Nat):(bK n).ds=aD n:=xB _
theorem fO (n:Nat):(bK n).v=n:=by rw[NV.v,ki,gz]
theorem ik {n:Nat} (h:(aD n).length < 2 ^ 40):NOk (bK n):=qpi (gm n) h
theorem pv (n:Nat):aK false (bK n).av=some (.int .i64 (aD n).length):=by rw[iJ,ki]
theorem iD (n:Nat):Fz (bK n).av (bK n).av:=by
 have:=cD (bK n)
 rwa [jQ] at this
theorem vc (n:Nat):∀ m k,bB m (k+1) (bK n).av=some ((bK n).av,[]):=by
 have:=qH (bK n)
 rwa [jQ] at this
theorem qhI (x:NV) (m:af) (K:KT):∀ n:Nat,n<=x.ds.length->x.ds.length < 2 ^ 62->GH x.av (.int .i64 n) m K=K (.exit 0) (Ho x.av (.int .i64 (lV x.ds n)) m):=by
 intro n
 induction n with
 | zero=>
  intro _ _;rw[Q4];simp[gY,aw,lV]
 | succ n ih=>
  intro hn hl;have ih:=ih (by omega) hl;rw[Q4];have h1:((n+1:Nat):Int) > 0:=by omega
  have h2:IntKind.wrap .i64 (((n+1:Nat):Int) - 1)=n:=by rw[iQ]<;>omega
  simp only[gY,aa,aA,an h1,pH,h2];rw[NV.av,uh (by omega) (by omega)];simp only[aa,gy,dg,iM,aA,cH];rw[lV]
  by_cases h:x.ds.getD n 0=0
  ·rw[an (by omega),an h];exact ih
  ·rw[aj (by omega),aj h]
theorem yi (x:NV) (dx:Dg x.ds) (hl:x.ds.length < 2 ^ 41):AP ae 133 [x.av]=some (bK x.v).av:=by
 have ht:=Ff x.ds x.ds.length;refine cM _ _ (Ng [] (aD x.v)) (pU _) (m:=pw [] (aD x.v)) ?_;rw[qgC,iJ,aa,qhI x [] _ _ (aR _) (by omega),qca];have hs:=ZG (z:=x.z) (o:=x.o) (ds:=x.ds) (k:=.i64) (i:=lV x.ds x.ds.length) (by omega) (by omega);rw[<- NV.av] at hs;rw[hs,aa];have he:x.ds.take (lV x.ds x.ds.length)=aD x.v:=lp dx;have hdl:=UQ dx;rw[cH,he,Ud (by rw[NV.v];simp only[gS];omega)]
 rfl
theorem rq {x:NV} (h:NOk x):AP ae 133 [x.av]=some (bK x.v).av:=yi x h.dg (by have:=h.len;omega)
theorem uR {x:NV} {i:Nat} (h:NOk x) (hi:i < 2 ^ 60):AP ae 135 [x.av,.int .i64 i]=some (.int .u64 (x.ds.getD i 0:Nat)):=by
 have:=h.dg i;refine iw (m:=[]) ?_ (fW _ _ _) (by simp[jd]);rw[qgE,iJ,aa,cW,aa,aA]
 by_cases hl:i < x.ds.length
 ·rw[an hl,mV hl,aa,kT,aa,mJ _ this,aa]
 ·rw[aj hl,yI (by omega)];rfl
theorem W77 (x y:NV) (m:af) (K:KT) (hl:x.ds.length < 2 ^ 62):∀ n:Nat,n<=x.ds.length->n<=y.ds.length ->
  G9 x.av y.av (.int .i64 ((n:Int) - 1)) m K=if mL x.ds y.ds n=0 then K (.exit 0) (LQ m) else K .ret (HC (.int .i64 (mL x.ds y.ds n)) m):=by
 intro n
 induction n with
 | zero=>
  intro _ _;rw[RW];simp[kK,aw,mL]
 | succ n ih=>
  intro hx hy;have ih:=ih (by omega) (by omega);rw[RW,show ((n+1:Nat):Int) - 1=(n:Nat) by omega,EW,aa,oQ];rw[mV (by omega),aa,kT,aa,mV (by omega),aa,kT,aa,dg,dg,O3,aa,aA]
  by_cases h:x.ds.getD n 0=y.ds.getD n 0
  ·have hc:mL x.ds y.ds (n+1)=mL x.ds y.ds n:=by rw[mL,aj (by omega),aj (by omega)]
   rw[hc,aj (fun hn=>hn h),ug (by omega),aa];exact ih
  ·rw[an h,aa,kT,aa,aa,kT,aa,cW,aa,aA]
   by_cases h2:x.ds.getD n 0 < y.ds.getD n 0
   ·have hc:mL x.ds y.ds (n+1)=-1:=by rw[mL,an h2]
    rw[hc,an h2];rfl
   ·have hc:mL x.ds y.ds (n+1)=1:=by rw[mL,aj h2,an (by omega)]
    rw[hc,aj h2];rfl
theorem Dw {x y:NV} (hx:NOk x) (hy:NOk y):AP ae 77 [x.av,y.av]=some (.int .i64 (gW x.v y.v)):=by
 have lx:=hx.v_len';have ly:=hy.v_len';refine iw (m:=[]) ?_ (fW _ _ _) (by simp[jd]);rw[T77,cG (cD x),rq hx.fr,aS,aa,cG (cD y),rq hy.fr,aS,aa];rw[show x.fr.v=x.v from rfl,show y.fr.v=y.v from rfl,pv,aa,pv,aa,O3,aa,aA,<- UI]
 by_cases h:(aD x.v).length=(aD y.v).length
 ·have hc:uY (aD x.v) (aD y.v)=mL (aD x.v) (aD y.v) (aD x.v).length:=by
   unfold uY;rw[aj (by omega),aj (by omega)]
  rw[hc,aj (fun hn=>hn h),aa,ug (by omega),aa];have:=W77 (bK x.v) (bK y.v) [] (Gm (aE ae.P f77.results.toList)) (by rw[ki];omega) (aD x.v).length (by rw[ki];exact aR _) (by rw[ki];omega);rw[this,qfo,qfn,ki,ki]
  split
  ·rename_i h0;rw[h0]
  ·rfl
 ·rw[an h,aa,aa,cW,aa,aA];unfold uY
  by_cases h2:(aD x.v).length < (aD y.v).length
  ·rw[an h2,an h2]
  ·have h3:(aD x.v).length > (aD y.v).length:=by omega
   rw[aj h2,aj h2,an h3]
theorem Dv {n:Nat} (h:n < 18446744073709551616):AP ae 72 [.int .u64 n]=some (bK n).av:=by
 have hb:∀ a b:Nat,dH none [.int .u32 (a:Nat),.int .u32 (b:Nat)]=some (NV.av ⟨false,.full,[a,b]⟩):=fun _ _=>rfl;have hd:Dg [n % 4294967296,n / 4294967296]:=mM.2 ⟨kA _ (by omega),u6 (by omega)⟩;refine cM _ _ (iD n) (pU _) (m:=[]) ?_;rw[T72,mK,aa,J1,aa,mK,aa,lB (by omega:n / 4294967296 < 4294967296),hb,aa,cG (cD _),rq (NOk.fr ⟨hd,by simp,by simp⟩)];simp only[aS,aa,NV.fr,NV.v,val];congr 4;omega
theorem SY {x:NV} (h:NOk x):AP ae 155 [x.av]=some (te x.v):=by
 have e:te x.v=td (bK x.v).ds:=by rw[ki,ZH]
 rw[e];refine iw (m:=[]) ?_ ((Im _).1 _) (by simp[(Im _).2]);rw[qgO,cG (cD x),rq h.fr];have dt:Dg (bK x.v).ds:=by rw[ki];exact gm _
 simp only[aS,aa];rw[show x.fr.v=x.v from rfl];generalize bK x.v=a at dt;rw[iJ,aa,nT,aa,aA];obtain ⟨z,o,ds⟩:=a
 match ds,dt with
 | [],_=>rfl
 | [d],dt=>
  have h0:=(mM.1 dt).1;rw[aj (by simp),vI,aa,aA,an (by simp),I6 (by simp),aa,kT,aa];simp only[pE];rw[mJ d h0]
  rfl
 | [d,e],dt=>
  have h0:=(mM.1 dt).1;have h1:=(mM.1 (mM.1 dt).2).1;have i1:aF none (NV.mk z o [d,e]).av (.int .i64 1)=some (.vptr [dg e]):=rfl;rw[aj (by simp),vI,aa,aA,aj (by simp),X5,aa,aA,an (by simp),i1,aa,kT,aa,mJ e h1,aa,Fj h1,aa,I6 (by simp),aa,kT,aa];simp only[pE];rw[mJ d h0,aa,Fi h1 h0,aa];simp only[td,si]
 | d::e::f::l,_=>
  rw[aj (by simp),vI,aa,aA,aj (by simp),X5,aa,aA,aj (by simp)]
  rfl
end Go.Ab
namespace Go.Ab
open Go.Proofs.Tryz
theorem P4 {tk:TK} {a:Nat} (h:a < 18446744073709551616):ag tk .rem (.int .u64 a) (.int .u64 4294967296)=some (.int .u64 (a % 4294967296:Nat)):=Ch (b:=4294967296) (by omega) h
theorem P3 {tk:TK} {a:Nat} (h:a < 18446744073709551616):ag tk .quo (.int .u64 a) (.int .u64 4294967296)=some (.int .u64 (a / 4294967296:Nat)):=zU (b:=4294967296) (by omega) h
theorem qac {tk:TK} {a:Nat}:ag tk .gtr (.int .u64 a) (.int .u64 0)=some (.bool (decide (a > 0))):=vJ
theorem OY (a:Nat):a % 4294967296 % 4294967296=a % 4294967296:=Nat.mod_mod _ _
theorem DM (n:Nat):dH none [.int .u32 (n:Nat)]=some (.lst none false .full [.int .u32 n]):=rfl
theorem Kb {x y:NV} (hx:NOk x) (hy:NOk y) (m:af) (K:KT) (i:Nat) (hi:i < 2 ^ 41) (fx:x.fr=x) (fy:y.fr=y) :
  ((aC (AP ae) none (pw m (cF x.ds y.ds i).1) 135 [x.av,.int .i64 i]).bind fun r3=>
  (aC (AP ae) none r3.2 135 [y.av,.int .i64 i]).bind fun r4=>
  (ag .other .add r3.1 r4.1).bind fun v5=>
  (ag .other .add v5 (.int .u64 (cF x.ds y.ds i).2)).bind fun v6=>
  (ag .other .rem v6 (.int .u64 4294967296)).bind fun v7=>
  (bq .u32 v7).bind fun v8=>
  (dH none [v8]).bind fun v9=>
  (ck none false 161 none 4 r4.2 (n0 m (cF x.ds y.ds i).1).av v9).bind fun ij=>
  (ag .other .quo v6 (.int .u64 4294967296)).bind fun v11=>
  (ag .other .add (.int .i64 i) (.int .i64 1)).bind fun v12=>
  uH x.av y.av ij.1 v11 v12 ij.2 K) =
  uH x.av y.av (n0 m (cF x.ds y.ds (i+1)).1).av (.int .u64 (cF x.ds y.ds (i+1)).2) (.int .i64 (i+1:Nat)) (pw m (cF x.ds y.ds (i+1)).1) K:=by
 have fzx:=cD x;have fzy:=cD y;rw[fx] at fzx;rw[fy] at fzy;have hc:=yp hx.dg hy.dg i;have h1:=hx.dg i;have h2:=hy.dg i;have hl:=wA x.ds y.ds i;have e:(cF x.ds y.ds i).2+x.ds.getD i 0+y.ds.getD i 0=x.ds.getD i 0+y.ds.getD i 0+(cF x.ds y.ds i).2:=by omega
 simp only[cF,e]
 rw[fe fzx (fW _ _),uR hx (by omega),aS,aa,fe fzy (fW _ _),uR hy (by omega),aS,aa,
  n8 (by omega),aa,n8 (by omega),aa,P4 (by omega),aa,mK,aa,OY,DM,aa,
  Mr (by rw[hl];simp only[gS];omega),aa,P3 (by omega),aa,cr (by omega),aa]
def sk (a b:List Nat):Nat:=if (cF a b (max a.length b.length)).2 > 0 then max a.length b.length+1 else max a.length b.length
theorem qig {a b:List Nat} (ha:Dg a) (hb:Dg b):val (cF a b (sk a b)).1=val a+val b:=by
 have hc:=yp ha hb (max a.length b.length)
 have e1:∀ n,max a.length b.length<=n->(cF a b n).2=0->val (cF a b n).1=val a+val b:=by
  intro n hn h0;have:=Mo a b n;rw[h0,oD,ku,jo (by omega),jo (by omega)] at this;exact this
 unfold sk
 split
 ·refine e1 _ (by omega) ?_;have o1:a.getD (max a.length b.length) 0=0:=yI (by omega);have o2:b.getD (max a.length b.length) 0=0:=yI (by omega);simp only[cF,o1,o2];omega
 ·exact e1 _ (aR _) (by omega)
theorem W76 {x y:NV} (hx:NOk x) (hy:NOk y) (m:af) (K:KT) (fx:x.fr=x) (fy:y.fr=y):∀ j i:Nat,i+j=max x.ds.length y.ds.length ->
  ∃ v,uH x.av y.av (n0 m (cF x.ds y.ds i).1).av (.int .u64 (cF x.ds y.ds i).2) (.int .i64 i) (pw m (cF x.ds y.ds i).1) K
   = K (.exit 0) (Ht (n0 m (cF x.ds y.ds (sk x.ds y.ds)).1).av v):=by
 have lx:=hx.len;have ly:=hy.len
 have lst:∀ i,x.ds.length<=i->y.ds.length<=i->i < 2 ^ 41->(cF x.ds y.ds i).2=0 ->
   uH x.av y.av (n0 m (cF x.ds y.ds i).1).av (.int .u64 (cF x.ds y.ds i).2) (.int .i64 i) (pw m (cF x.ds y.ds i).1) K=K (.exit 0) (Ht (n0 m (cF x.ds y.ds i).1).av (pw m (cF x.ds y.ds i).1)):=by
  intro i h1 h2 h3 h4;rw[KW,iJ,aa,cW,aa,aA,aj (by omega),iJ,aa,cW,aa,aA,aj (by omega),qac,aa,aA,aj (by omega)]
 intro j
 induction j with
 | zero=>
  intro i hi;have hi:i=max x.ds.length y.ds.length:=by omega
  by_cases hc:(cF x.ds y.ds i).2 > 0
  ·have ht:sk x.ds y.ds=i+1:=by unfold sk;rw[<- hi,an hc]
   have o1:x.ds.getD i 0=0:=yI (by omega);have o2:y.ds.getD i 0=0:=yI (by omega);have wO:=yp hx.dg hy.dg i;refine ⟨pw m (cF x.ds y.ds (i+1)).1,?_⟩;rw[KW,iJ,aa,cW,aa,aA,aj (by omega),iJ,aa,cW,aa,aA,aj (by omega),qac,aa,aA,an hc,Kb hx hy m K i (by omega) fx fy,ht];exact lst (i+1) (by omega) (by omega) (by omega) (by simp only[cF,o1,o2];omega)
  ·have ht:sk x.ds y.ds=i:=by unfold sk;rw[<- hi,aj hc]
   rw[ht];exact ⟨_,lst i (by omega) (by omega) (by omega) (by omega)⟩
 | succ j ih=>
  intro i hi;obtain ⟨v,ih⟩:=ih (i+1) (by omega);refine ⟨v,?_⟩;rw[KW,iJ,aa,cW,aa,aA]
  by_cases h1:i < x.ds.length
  ·rw[an h1,Kb hx hy m K i (by omega) fx fy];exact ih
  ·rw[aj h1,iJ,aa,cW,aa,aA,an (by omega),Kb hx hy m K i (by omega) fx fy];exact ih
theorem Tf {x y:NV} (hx:NOk x) (hy:NOk y) (fx:x.fr=x) (fy:y.fr=y):AP ae 76 [x.av,y.av]=some (bK (x.v+y.v)).av:=by
 have lx:=hx.len;have ly:=hy.len;obtain ⟨v,hw⟩:=W76 hx hy [] (KP (aE ae.P f76.results.toList)) fx fy (max x.ds.length y.ds.length) 0 (by omega);have hl:=wA x.ds y.ds (sk x.ds y.ds);have hT:sk x.ds y.ds<=max x.ds.length y.ds.length+1:=by unfold sk;split<;>omega
 have hd:=Mn x.ds y.ds (sk x.ds y.ds);refine cM _ _ (iD _) (pU _) (m:=v) ?_;rw[T76];refine hw.trans ?_;rw[qfk,cG (Ng _ _),yi _ (by rw[xB];exact hd) (by rw[xB,hl];omega),Zg,qig hx.dg hy.dg]
 rfl
def jR (a b:List Nat):Nat->List Nat×Nat
 | 0=>([],0)
 | i+1=>if a.getD i 0 < b.getD i 0+(jR a b i).2 then ((jR a b i).1++[a.getD i 0+4294967296 - (b.getD i 0+(jR a b i).2)],1)
  else ((jR a b i).1++[a.getD i 0 - (b.getD i 0+(jR a b i).2)],0)
theorem Fe (a b:List Nat):∀ i,(jR a b i).1.length=i
 | 0=>rfl
 | i+1=>by simp only[jR];split<;>simp[Fe a b i]
theorem JU (a b:List Nat):∀ i,(jR a b i).2<=1
 | 0=>by simp[jR]
 | i+1=>by simp only[jR];split<;>simp
theorem JV {a b:List Nat} (ha:Dg a) (hb:Dg b):∀ i,Dg (jR a b i).1
 | 0=>yB
 | i+1=>by
  have:=JU a b i;have h1:=ha i;have h2:=hb i;simp only[jR]
  split
  ·exact yA (JV ha hb i) (u6 (by omega))
  ·exact yA (JV ha hb i) (u6 (by omega))
theorem qpU {a b:List Nat} (ha:Dg a) (hb:Dg b) (i:Nat):val (jR a b i).1+vs b i=vs a i+4294967296 ^ i * (jR a b i).2:=by
 induction i with
 | zero=>
  rw[jR,rN,rN]
  rfl
 | succ i ih=>
  have hl:=Fe a b i;have hc:=JU a b i;have h1:=ha i;have h2:=hb i;rw[jT,jT,jW,jR];obtain ⟨s1,s2⟩:=ZS (x:=a.getD i 0) (y:=b.getD i 0) (v1:=4294967296) ih;rw[si (jR a b i).2] at s1 s2
  split
  ·rename_i hlt;simp only[];rw[xL,hl,val,val,oD,ku];exact s1 hlt (by omega)
  ·rename_i hlt;simp only[];rw[xL,hl,val,val,oD,ku];exact s2 hlt
theorem qpT {a b:List Nat} (ha:Dg a) (hb:Dg b) (h:val b<=val a):val (jR a b a.length).1=val a - val b:=by
 have h1:=qpU ha hb a.length;rw[jo (aR _),qaj ha h] at h1;have h2:=nc (JV ha hb a.length);rw[Fe] at h2;have h3:=nc ha;have hc:=JU a b a.length
 have:(jR a b a.length).2=0:=by
  apply qw;intro hn;have e:(jR a b a.length).2=1:=by omega
  rw[e,mI] at h1;omega
 rw[this,oD,ku] at h1;omega
theorem W78 {x y:NV} (hx:NOk x) (hy:NOk y) (m:af) (K:KT) (fx:x.fr=x) (fy:y.fr=y):∀ j i:Nat,i+j=x.ds.length ->
  C6 x.av y.av (n0 m (jR x.ds y.ds i).1).av (.int .u64 (jR x.ds y.ds i).2) (.int .i64 i) (pw m (jR x.ds y.ds i).1) K
   = K (.exit 0) (LR (n0 m (jR x.ds y.ds x.ds.length).1).av (pw m (jR x.ds y.ds x.ds.length).1)):=by
 have lx:=hx.len;have fzx:=cD x;have fzy:=cD y;rw[fx] at fzx;rw[fy] at fzy;intro j
 induction j with
 | zero=>
  intro i hi;have:i=x.ds.length:=by omega
  subst this;rw[RX,iJ,aa,cW,aa,aA,aj (by omega)]
 | succ j ih=>
  intro i hi;have ih:=ih (i+1) (by omega);have hc:=JU x.ds y.ds i;have h1:=hx.dg i;have h2:=hy.dg i;have hl:=Fe x.ds y.ds i;have s1:ag .other .mul (.int .u64 1) (.int .u64 4294967296)=some (.int .u64 (4294967296:Nat)):=rfl;have s0:ag .other .mul (.int .u64 0) (.int .u64 4294967296)=some (.int .u64 (0:Nat)):=rfl;rw[RX,iJ,aa,cW,aa,aA,an (by omega),fe fzy (fW _ _),uR hy (by omega),aS,aa,n8 (by omega),aa,fe fzx (fW _ _),uR hx (by omega),aS,aa,cW,aa,aA];simp only[jR] at ih
  by_cases h:x.ds.getD i 0 < y.ds.getD i 0+(jR x.ds y.ds i).2
  ·rw[an h] at ih ⊢
   rw[fe fzx (fW _ _),uR hx (by omega),aS,aa,s1,aa,n8 (by omega),aa,zV (by omega) (by omega),aa,mK,aa,DM,aa,lB (by omega),
    Mr (by rw[hl];simp only[gS];omega),aa,cr (by omega),aa]
   exact ih
  ·rw[aj h] at ih ⊢
   rw[fe fzx (fW _ _),uR hx (by omega),aS,aa,s0,aa,n8 (by omega),aa,zV (by omega) (by omega),aa,mK,aa,DM,aa,lB (by omega),
    Mr (by rw[hl];simp only[gS];omega),aa,cr (by omega),aa]
   exact ih
def Cc (x y:NV):AV:=if x.v < y.v then .tup [BT,.int .i64 1] else .tup [(bK (x.v - y.v)).av,.int .i64 0]
theorem Dx {x y:NV} (hx:NOk x) (hy:NOk y) (fx:x.fr=x) (fy:y.fr=y):AP ae 78 [x.av,y.av]=some (Cc x y):=by
 have lx:=hx.len;have fzx:=cD x;have fzy:=cD y;rw[fx] at fzx;rw[fy] at fzy;unfold Cc
 by_cases h:x.v < y.v
 ·rw[an h];refine cM _ _ (u7 Ba (jX _ _)) rfl (m:=[]) ?_;rw[SN,fe fzx fzy,Dw hx hy,aS,aa,bc,aa,aA,gW,an h,an (by omega)]
 ·rw[aj h];have hl:=Fe x.ds y.ds x.ds.length;have hd:=JV hx.dg hy.dg x.ds.length;refine cM _ _ (u7 (vc (x.v - y.v)) (jX _ _)) rfl (m:=pw [] (jR x.ds y.ds x.ds.length).1) ?_;have hc:¬ gW x.v y.v < 0:=by unfold gW;rw[aj h];split<;>omega
  rw[SN,fe fzx fzy,Dw hx hy,aS,aa,bc,aa,aA,aj hc];refine (W78 hx hy [] _ fx fy x.ds.length 0 (by omega)).trans ?_;rw[qfr,cG (Ng _ _),yi _ (by rw[xB];exact hd) (by rw[xB,hl];omega),Zg,qpT hx.dg hy.dg (wk h)]
  rfl
theorem qh3 (x y:NV) (m:af) (K:KT) (i n:Nat) (s:List Nat×Nat) (hl:n < 2 ^ 42) (hn:s.1.length=n) (hi:i+y.ds.length<=n) (gK:i < x.ds.length) (dx:Dg x.ds) (dy:Dg y.ds) (hs:Dg s.1) (hc:s.2 < 4294967296):∀ j k:Nat,k+j=y.ds.length ->
  G8 x.av y.av (.arr m.length 0 n none) (.int .i64 i) (.int .u64 (gX y.ds (x.ds.getD i 0) i k s).2) (.int .i64 k) (m++[oc (gX y.ds (x.ds.getD i 0) i k s).1]) K
   = K (.exit 2) (LP x.av y.av (.arr m.length 0 n none) (.int .i64 i) (.int .u64 (gX y.ds (x.ds.getD i 0) i y.ds.length s).2) (m++[oc (gX y.ds (x.ds.getD i 0) i y.ds.length s).1])):=by
 intro j
 induction j with
 | zero=>
  intro k hk;have:k=y.ds.length:=by omega
  subst this;rw[RT,iJ,aa,cW,aa,aA,aj (by omega)]
 | succ j ih=>
  intro k hk;have ih:=ih (k+1) (by omega);have hx:=dx i;obtain ⟨h1,h2⟩:=BO (i:=i) dy hx hs hc k;have h3:=h1 (i+k);have h4:=dy k;have h5:x.ds.getD i 0 * y.ds.getD k 0<=4294967295 * 4294967295:=sj (by omega) (by omega);have hlen:=xn y.ds (x.ds.getD i 0) i s k;have aU:∀ l,(m++[oc l])[m.length]?=some (oc l):=fun l=>AD ..
  have rH:∀ l l',(m++[oc l]).set m.length (oc l')=m++[oc l']:=by
   intro l l';rw[sg _ _ (aR _),oY,cY]
  rw[RT,iJ,aa,cW,aa,aA,an (by omega)];simp only[gX] at ih;generalize gX y.ds (x.ds.getD i 0) i k s=t at *
  rw[mV gK,aa,kT,aa,mJ _ hx,aa,mV (by omega),aa,kT,aa,mJ _ h4,aa,Fh (by omega),aa,kS (by omega),aa,ga (by omega),aa,sZ (aU _) (by omega),aa,mJ _ h3,aa,
   n8 (by omega),aa,n8 (by omega),aa,aa,P4 (by omega),aa,mK,aa,OY,ga (by omega),aa,pz (aU _) (by omega),rH,aa,P3 (by omega),aa,cr (by omega),aa]
  have e:t.2+(t.1.getD (i+k) 0+x.ds.getD i 0 * y.ds.getD k 0)=x.ds.getD i 0 * y.ds.getD k 0+t.1.getD (i+k) 0+t.2:=by omega
  rw[e] at ih;exact ih
theorem W75 (x y:NV) (m:af) (K:KT) (hx:x.ds.length < 2 ^ 40) (hy:y.ds.length < 2 ^ 40) (dx:Dg x.ds) (dy:Dg y.ds):∀ j i:Nat,i+j=x.ds.length ->
  G7 x.av y.av (.arr m.length 0 (x.ds.length+y.ds.length) none) (.int .i64 i) (m++[oc (iO x.ds y.ds i)]) K
   = K (.exit 0) (LO (.arr m.length 0 (x.ds.length+y.ds.length) none) (m++[oc (iO x.ds y.ds x.ds.length)])):=by
 intro j
 induction j with
 | zero=>
  intro i hi;have:i=x.ds.length:=by omega
  subst this;rw[RS,iJ,aa,cW,aa,aA,aj (by omega)]
 | succ j ih=>
  intro i hi;have ih:=ih (i+1) (by omega);rw[RS,iJ,aa,cW,aa,aA,an (by omega)];have hb:=qh3 x y m (KO K) i (x.ds.length+y.ds.length) (iO x.ds y.ds i,0) (by omega) (xm ..) (by omega) (by omega) dx dy (zx dx dy i) (by simp) y.ds.length 0 (by omega)
  refine Eq.trans ?_ (hb.trans ?_)
  ·rfl
  obtain ⟨h1,h2⟩:=BO (i:=i) (s:=(iO x.ds y.ds i,0)) dy (dx i) (zx dx dy i) (by simp) y.ds.length;have hl:=xn y.ds (x.ds.getD i 0) i (iO x.ds y.ds i,0) y.ds.length;simp only[xm] at hl;have aU:∀ l,(m++[oc l])[m.length]?=some (oc l):=fun l=>AD ..
  have rH:∀ l l',(m++[oc l]).set m.length (oc l')=m++[oc l']:=by
   intro l l';rw[sg _ _ (aR _),oY,cY]
  rw[qfh,iJ,aa,kS (by omega),aa,mK,aa,lB h2,ga (by omega),aa,pz (aU _) (by omega),rH,aa,cr (by omega),aa];exact ih
theorem AS {x y:NV} (hx:NOk x) (hy:NOk y):AP ae 75 [x.av,y.av]=some (bK (x.v * y.v)).av:=by
 have lx:=hx.v_len';have ly:=hy.v_len';have hd:=zx (gm x.v) (gm y.v) (aD x.v).length;have hlen:=xm (aD x.v) (aD y.v) (aD x.v).length;have hval:=O1 (aD x.v) (aD y.v) (aD x.v).length (aR _);rw[jo (aR _),gz,gz] at hval;refine cM _ _ (iD _) (pU _) (m:=[none]) ?_;rw[T75,cG (cD x),rq hx.fr,aS,aa,cG (cD y),rq hy.fr,aS,aa];rw[show x.fr.v=x.v from rfl,show y.fr.v=y.v from rfl,pv,aa,pv,aa,kS (by omega),aa,xj (by omega) (by omega),aa];have hw:=W75 (bK x.v) (bK y.v) [] (KN (aE ae.P f75.results.toList)) (by rw[ki];omega) (by rw[ki];omega) (by rw[ki];exact gm _) (by rw[ki];exact gm _) (aD x.v).length 0 (by rw[ki];omega);simp only[ki] at hw
 refine Eq.trans ?_ (hw.trans ?_)
 ·rfl
 have hp:=xr (cp:=AP ae) (g:=133) (m:=[]++[oc (iO (aD x.v) (aD y.v) (aD x.v).length)]) (nm:=0) (ds:=iO (aD x.v) (aD y.v) (aD x.v).length) rfl;rw[hlen] at hp;rw[qfc,show ([]:af).length=0 from rfl,hp,yi _ hd (by simp only[hlen];omega)];simp only[NV.v] at hval ⊢;rw[hval]
 rfl
theorem qhO (x:NV) (d:Nat) (m:af) (K:KT) (hl:x.ds.length < 2 ^ 40) (dx:Dg x.ds) (hd:0 < d) (kP:d < 4294967296):∀ j k:Nat,k+j=x.ds.length ->
  GU x.av (.int .u64 d) (.arr m.length 0 x.ds.length none) (.int .u64 (iC x.ds d k).2) (.int .i64 ((j:Int) - 1)) (m++[oc (iC x.ds d k).1]) K
   = K (.exit 0) (Ll (.arr m.length 0 x.ds.length none) (.int .u64 (iC x.ds d x.ds.length).2) (m++[oc (iC x.ds d x.ds.length).1])):=by
 intro j
 induction j with
 | zero=>
  intro k hk;have:k=x.ds.length:=by omega
  subst this;rw[Rl];simp[kK,aw]
 | succ j ih=>
  intro k hk;have ih:=ih (k+1) (by omega);have hr:=JM (a:=x.ds) hd k;have hq:=PL (a:=x.ds) dx hd k j;have hlen:=xF x.ds d k;have hj:=dx j;have ej:x.ds.length - 1 - k=j:=by omega
  have mB:∀ a:Nat,a < 4294967296->ag .other .mul (.int .u64 a) (.int .u64 4294967296)=some (.int .u64 (a * 4294967296:Nat)):=fun a h=>Fh (b:=4294967296) (by omega)
  have rH:∀ l l',(m++[oc l]).set m.length (oc l')=m++[oc l']:=by
   intro l l';rw[sg _ _ (aR _),oY,cY]
  rw[Rl,show ((j+1:Nat):Int) - 1=(j:Nat) by omega,EW,aa,oQ];simp only[iC,ej] at ih;generalize iC x.ds d k=t at *;rw[mB _ (by omega),aa,mV (by omega),aa,kT,aa,mJ _ hj,aa,n8 (by omega),aa,zU (by omega) (by omega),aa,mK,aa,ga (by omega),aa,lB hq,pz (AD ..) (by omega),rH,aa,Ch (by omega) (by omega),aa,ug (by omega),aa];exact ih
theorem S5 {x:NV} {d:Nat} (hx:NOk x) (hd:0 < d) (kP:d < 4294967296):AP ae 170 [x.av,.int .u64 d]=some (.tup [(bK (x.v / d)).av,.int .u64 (x.v % d:Nat)]):=by
 have lx:=hx.len;obtain ⟨k1,k2⟩:=ZD hx.dg hd;refine cM _ _ (u7 (vc (x.v / d)) (jX _ _)) rfl (m:=[none]) ?_;rw[qgV,iJ,aa,xj (by omega) (by omega),aa,aa,ug (by omega),aa];have:=qhO x d [] (Kz (aE ae.P f170.results.toList)) lx hx.dg hd kP x.ds.length 0 (by omega);refine this.trans ?_;have hp:=xr (cp:=AP ae) (g:=133) (m:=[]++[oc (iC x.ds d x.ds.length).1]) (nm:=0) (ds:=(iC x.ds d x.ds.length).1) rfl;rw[xF] at hp;rw[JN,lp (Ca hx.dg hd _)] at k1;rw[qc5,show ([]:af).length=0 from rfl,hp,yi _ (Ca hx.dg hd _) (by simp only[xF];omega),k2];simp only[aS,aa,NV.v];rw[qlh k1]
 rfl
theorem HN {x:NV} (hx:NOk x):AP ae 157 [x.av]=some (bK (x.v / 2)).av:=by
 refine cM _ _ (iD _) (pU _) (m:=[]) ?_;have h:=S5 (d:=2) (ik hx.v_len') (by omega) (by omega);rw[fO] at h;rw[qgQ,cG (cD x),rq hx.fr,aS,aa,show x.fr.v=x.v from rfl,fe (iD _) (fW _ _)];simp only[];rw[show AV.int .u64 2=.int .u64 ((2:Nat):Int) from rfl,h]
 rfl
theorem qlW (ds:List Nat):ds.getD 0 0 % 2=val ds % 2:=by
 cases ds with
 | nil=>rfl
 | cons d ds=>rw[pE,val];omega
theorem HM {x:NV} (hx:NOk x):AP ae 156 [x.av]=some (.bool (decide (x.v % 2=0))):=by
 have h0:=hx.dg 0;have h:=uR (i:=0) hx.fr (by omega);refine iw (m:=[]) ?_ (qG _ _) (by simp[jd]);rw[qgP,fe (cD x) (fW _ _),show AV.int .i64 0=.int .i64 ((0:Nat):Int) from rfl,h,aS,aa];simp only[NV.fr];rw[show AV.int .u64 2=.int .u64 ((2:Nat):Int) from rfl,Ch (by omega) (by omega),aa,nT,aa,qlW]
 rfl
end Go.Ab
namespace Go.Ab
open Go.Proofs.Tryz
def iX (b:List Nat) (d s:Nat):Nat->List Nat×Nat
 | 0=>(List.replicate s 0,0)
 | i+1=>((iX b d s i).1++[(b.getD i 0 * d+(iX b d s i).2) % 4294967296],(b.getD i 0 * d+(iX b d s i).2) / 4294967296)
theorem J0 (b:List Nat) (d s:Nat):∀ i,(iX b d s i).1.length=s+i
 | 0=>by simp[iX]
 | i+1=>by simp only[iX,aI,J0 b d s i,aL,aQ];omega
theorem P1 {b:List Nat} {d:Nat} (hb:Dg b) (hd:d < 4294967296) (s:Nat):∀ i,(iX b d s i).2 < 4294967296
 | 0=>by simp[iX]
 | i+1=>by
  have:=P1 hb hd s i;have h1:=hb i;have h5:b.getD i 0 * d<=4294967295 * 4294967295:=sj (by omega) (by omega);simp only[iX];omega
theorem Z3 (b:List Nat) (d s:Nat):∀ i,Dg (iX b d s i).1
 | 0=>yC _
 | i+1=>yA (Z3 b d s i) (u6 (kA _ (by omega)))
theorem Z4 (b:List Nat) (d s:Nat):∀ i,val (iX b d s i).1+4294967296 ^ (s+i) * (iX b d s i).2=4294967296 ^ s * (vs b i * d)
 | 0=>by simp[iX,J5,rN]
 | i+1=>by
  have ih:=Z4 b d s i;simp only[iX,xL,J0,val,jT];have h1:=B1 (4294967296 ^ (s+i)) 4294967296 (b.getD i 0 * d+(iX b d s i).2);generalize hw:b.getD i 0 * d+(iX b d s i).2=w at *;rw[<- hw,gB,hw] at h1
  have e:4294967296 ^ s * ((vs b i+4294967296 ^ i * b.getD i 0) * d)=4294967296 ^ s * (vs b i * d)+4294967296 ^ (s+i) * (b.getD i 0 * d):=by
   rw[im,gB,rm,fF,fF]
  rw[e,<- ih,<- mH,jW,oD,ku];omega
def tV (m:af) (i:Nat) (ds:List Nat):NV:=if i=0 then ⟨false,.full,ds⟩ else ⟨false,.tok m.length 161,ds⟩
def tM (m:af) (i:Nat) (ds:List Nat):af:=if i=0 then m else n7 m ds.length
theorem Ue {m:af} {i:Nat} {ds:List Nat} {v:Nat} (h:(ds.length+1) * 4<=gS):ck none false 161 none 4 (tM m i ds) (tV m i ds).av (.lst none false .full [.int .u32 v])=some ((tV m (i+1) (ds++[v])).av,tM m (i+1) (ds++[v])):=by
 by_cases hi:i=0
 ·subst hi;simp only[tV,tM,bz,NV.av,ck,cg,aL,aQ,br,h,az,n7,Sh.size,j6,mo,true_or,lA,gg,ri,dg,aI,Nat.add_eq_zero_iff,Nat.one_ne_zero,and_false,Nat.succ_ne_zero]
 ·have:=DG (e:=161) (b:=4) (m:=m) (es:=ds.map dg) (z:=false) (o:=.full) (y:=.int .u32 v) (by rw[cg];exact h);rw[cg] at this;simp only[tV,tM,aj hi,NV.av,aj (Nat.succ_ne_zero i)];rw[this];simp[dg]
theorem qhP (x:NV) (d s:Nat) (m:af) (K:KT) (hl:x.ds.length < 2 ^ 40) (dx:Dg x.ds) (hd:d < 4294967296) (hs:s < 2 ^ 40):∀ j i:Nat,i+j=x.ds.length ->
  GV x.av (.int .u64 d) (tV m i (iX x.ds d s i).1).av (.int .u64 (iX x.ds d s i).2) (.int .i64 i) (tM m i (iX x.ds d s i).1) K
   = K (.exit 0) (Lm (tV m x.ds.length (iX x.ds d s x.ds.length).1).av (.int .u64 (iX x.ds d s x.ds.length).2) (tM m x.ds.length (iX x.ds d s x.ds.length).1)):=by
 intro j
 induction j with
 | zero=>
  intro i hi;have:i=x.ds.length:=by omega
  subst this;rw[Rm,iJ,aa,cW,aa,aA,aj (by omega)]
 | succ j ih=>
  intro i hi;have ih:=ih (i+1) (by omega);have h1:=dx i;have h2:=P1 dx hd s i;have hlen:=J0 x.ds d s i;have h5:x.ds.getD i 0 * d<=4294967295 * 4294967295:=sj (by omega) (by omega);simp only[iX] at ih
  rw[Rm,iJ,aa,cW,aa,aA,an (by omega),mV (by omega),aa,kT,aa,mJ _ h1,aa,Fh (by omega),aa,n8 (by omega),aa,P4 (by omega),aa,mK,aa,OY,DM,aa,
   Ue (by rw[hlen];simp only[gS];omega),aa,P3 (by omega),aa,cr (by omega),aa]
  exact ih
theorem S6 {x:NV} {d s:Nat} (hx:NOk x) (hd:d < 4294967296) (hs:s < 2 ^ 40):AP ae 172 [x.av,.int .u64 d,.int .i64 s]=some (bK (4294967296 ^ s * (x.v * d))).av:=by
 have lx:=hx.len;have hlen:=J0 x.ds d s x.ds.length;have hc:=P1 hx.dg hd s x.ds.length;have hv:=Z4 x.ds d s x.ds.length;rw[jo (aR _)] at hv;have hdg:Dg ((iX x.ds d s x.ds.length).1++[(iX x.ds d s x.ds.length).2]):=yA (Z3 _ _ _ _) (u6 hc)
 have mg:zu none none (.int .u32 0) 4 [] (.int .i64 s) (.int .i64 s)=some ((NV.mk false .full (List.replicate s 0)).av,[]):=by
  have h1:(s:Int) * 4<=281474976710656:=by omega
  have h2:(s:Int)<=9223372036854775807:=by omega
  have h3:(0:Int)<=s:=by omega
  simp only[zu,NV.av,List.map_replicate,dg];rw[an ⟨⟨h3,trivial,h1,h2⟩,rfl,rfl⟩]
  rfl
 refine cM _ _ (iD _) (pU _) (m:=tM [] (x.ds.length+1) ((iX x.ds d s x.ds.length).1++[(iX x.ds d s x.ds.length).2])) ?_;rw[qgX,mg,aa];refine (qhP x d s [] _ lx hx.dg hd hs x.ds.length 0 (by omega)).trans ?_
 have hfz:Fz (tV [] (x.ds.length+1) ((iX x.ds d s x.ds.length).1++[(iX x.ds d s x.ds.length).2])).av (NV.mk false .no ((iX x.ds d s x.ds.length).1++[(iX x.ds d s x.ds.length).2])).av:=by
  have:=cD (tV [] (x.ds.length+1) ((iX x.ds d s x.ds.length).1++[(iX x.ds d s x.ds.length).2]));unfold tV at this ⊢;rw[aj (by omega)] at this ⊢;exact this
 rw[qc8,mK,aa,DM,aa,lB hc,Ue (by rw[hlen];simp only[gS];omega),aa,cG hfz,yi _ hdg (by simp only[aI,hlen,aL,aQ];omega)];simp only[aS,aa,NV.v] at hv ⊢;rw[xL,hlen,val,val,oD,ku,hv]
theorem qo5 {a b p q top lead:Nat} (hq:q * b<=a) (ha:a < (top+1) * p) (hb:lead * p<=b) (hl:0 < lead):q<=top / lead:=by
 rw[Hg hl];have h1:q * lead * p<=q * b:=by rw[fF];exact kJ _ hb
 have h2:q * lead * p < (top+1) * p:=by omega
 have:=Hh h2;omega
theorem qo4 {a b p top lead:Nat} (ha:top * p<=a) (hb:b<=(lead+1) * p) (hb0:0 < b):top / (lead+1)<=a / b:=by
 rw[Hg hb0];have h1:top / (lead+1) * b<=top / (lead+1) * ((lead+1) * p):=kJ _ hb;rw[<- fF] at h1;have h2:top / (lead+1) * (lead+1) * p<=top * p:=iS _ (Hf _ _);omega
theorem qqo {a:List Nat} {k:Nat} (ha:Dg a) (h:val a < 4294967296 ^ (k+2)):(a.getD (k+1) 0 * 4294967296+a.getD k 0) * 4294967296 ^ k<=val a/\val a < (a.getD (k+1) 0 * 4294967296+a.getD k 0+1) * 4294967296 ^ k:=by
 have h1:val a=vs a (k+2):=by
  have hz:∀ j,vs a (k+2+j)=vs a (k+2):=by
   intro j
   induction j with
   | zero=>rfl
   | succ j ih=>
    rw[<- mH,jT,ih];have hle:=qak a (k+2+j+1);rw[jT] at hle;have hp:4294967296 ^ (k+2)<=4294967296 ^ (k+2+j):=pY (by omega) (by omega)
    have h0:a.getD (k+2+j) 0=0:=by
     apply qw;intro hn;have:4294967296 ^ (k+2+j) * 1<=4294967296 ^ (k+2+j) * a.getD (k+2+j) 0:=kJ _ (by omega);omega
    rw[h0,oD,ku]
  rw[<- jo (a:=a) (i:=k+2+a.length) (by omega)];exact hz a.length
 have h2:=xO ha k;rw[h1,jT,jT,jW,im _ 1,im,fF,cO (4294967296 ^ k) (a.getD k 0),cO (4294967296 ^ k) 4294967296,cO (4294967296 * 4294967296 ^ k)];omega
theorem qhp {x y:NV} {i n:Nat} (hx:NOk x) (hy:NOk y) (hi:i < 2 ^ 40) (hn:y.ds.length=n) (lR:1<=n) (qmx:y.ds.getD (n - 1) 0≠0) (hq:x.v / (y.v * 4294967296 ^ i) < 4294967296) :
  ∃ lo hi:Nat,AP ae 171 [x.av,y.av,.int .i64 i]=some (.tup [.int .u64 lo,.int .u64 hi])/\lo<=x.v / (y.v * 4294967296 ^ i)/\x.v / (y.v * 4294967296 ^ i)<=hi/\hi < 4294967296:=by
 have lx:=hx.len;have ly:=hy.len;obtain ⟨k,rfl⟩:∃ k,n=k+1:=⟨n - 1,by omega⟩;rw[pF] at qmx;have zi:y.v=vs y.ds k+4294967296 ^ k * y.ds.getD k 0:=by rw[NV.v,<- jo (Nat.le_of_eq hn),jT]
 have hZ:=xO hy.dg k;have wW:=hy.dg k;have Oc:0 < 4294967296 ^ i:=Nat.pow_pos (by omega);have sP:0 < 4294967296 ^ k:=Nat.pow_pos (by omega)
 have hyp:0 < y.v:=by
  rw[zi];have:4294967296 ^ k * 1<=4294967296 ^ k * y.ds.getD k 0:=kJ _ (by omega);omega
 have hb0:0 < y.v * 4294967296 ^ i:=Nat.mul_pos hyp Oc
 have hb1:y.ds.getD k 0 * 4294967296 ^ (k+i)<=y.v * 4294967296 ^ i:=by
  rw[rm,<- fF];exact iS _ (by rw[zi,cO];omega)
 have hb2:y.v * 4294967296 ^ i<=(y.ds.getD k 0+1) * 4294967296 ^ (k+i):=by
  rw[rm,<- fF];refine iS _ ?_;rw[zi,im,rl,cO];omega
 have qnk:val x.ds < 4294967296 ^ (k+i+2):=by
  rw[uO hb0] at hq;have h1:(y.ds.getD k 0+1) * 4294967296 ^ (k+i)<=4294967296 * 4294967296 ^ (k+i):=iS _ wW;have h2:4294967296 * (y.v * 4294967296 ^ i)<=4294967296 * (4294967296 * 4294967296 ^ (k+i)):=kJ _ (ef hb2 h1);rw[jW,jW]
  have h3:4294967296 ^ (k+i) * 4294967296 * 4294967296=4294967296 * (4294967296 * 4294967296 ^ (k+i)):=by
   rw[cO,cO (4294967296 ^ (k+i))]
  rw[h3];exact rj hq h2
 obtain ⟨t1,t2⟩:=qqo hx.dg qnk;have d1:=hx.dg (k+i+1);have d2:=hx.dg (k+i);have qle:x.v / (y.v * 4294967296 ^ i)<=(x.ds.getD (k+i+1) 0 * 4294967296+x.ds.getD (k+i) 0) / y.ds.getD k 0:=qo5 (Hf _ _) t2 hb1 (by omega);have qge:(x.ds.getD (k+i+1) 0 * 4294967296+x.ds.getD (k+i) 0) / (y.ds.getD k 0+1)<=x.v / (y.v * 4294967296 ^ i):=qo4 t1 hb2 hb0;have hfz:=u7 (jX .u64 0) (jX .u64 0)
 have key:∃ lo hi:Nat,AC ae 171 [x.av,y.av,.int .i64 i] []=some (.tup [.int .u64 lo,.int .u64 hi],[])/\lo<=x.v / (y.v * 4294967296 ^ i)/\x.v / (y.v * 4294967296 ^ i)<=hi/\hi < 4294967296:=by
  have e1:i+(k+1)=k+i+1:=by omega
  have uB:∀ a:Nat,ag .other .lss (.int .u64 a) (.int .u64 4294967295)=some (.bool (decide (a < 4294967295))):=fun a=>cW (b:=4294967295);have u0:∀ a:Nat,ag .other .gtr (.int .u64 0) (.int .u64 a)=some (.bool (decide (0 > a))):=fun a=>BP (a:=0);have u0B:ag .other .gtr (.int .u64 0) (.int .u64 4294967295)=some (.bool false):=rfl;have uaB:∀ a:Nat,ag .other .gtr (.int .u64 a) (.int .u64 4294967295)=some (.bool (decide (a > 4294967295))):=fun a=>BP (b:=4294967295);have ua1:∀ a:Nat,a < 4294967296->ag .other .add (.int .u64 a) (.int .u64 1)=some (.int .u64 (a+1:Nat)):=fun a h=>n8 (b:=1) (by omega);rw[qgW,iJ,hn,aa,kS (by omega),aa,fe (cD x) (fW _ _),uR hx.fr (by omega),aS,aa];rw[show x.fr.ds=x.ds from rfl,e1,Fj (hx.dg _),aa,aa,ph (by omega) (by omega),aa,pF,fe (cD x) (fW _ _),uR hx.fr (by omega),aS,aa];rw[show x.fr.ds=x.ds from rfl,Fi (hx.dg _) (hx.dg _),aa,ph (by omega) (by omega),aa,pF,mV (by omega),aa,kT,aa,mJ _ wW,aa,zU (by omega) (by omega),aa,uB,aa,aA];have hdl:=AM (x.ds.getD (k+i+1) 0 * 4294967296+x.ds.getD (k+i) 0) (y.ds.getD k 0+1);have uq:ag .other .quo (.int .u64 (x.ds.getD (k+i+1) 0 * 4294967296+x.ds.getD (k+i) 0:Nat)) (.int .u64 (y.ds.getD k 0+1:Nat))=some (.int .u64 ((x.ds.getD (k+i+1) 0 * 4294967296+x.ds.getD (k+i) 0) / (y.ds.getD k 0+1):Nat)):=zU (by omega) (by omega)
  by_cases c1:(x.ds.getD (k+i+1) 0 * 4294967296+x.ds.getD (k+i) 0) / y.ds.getD k 0 < 4294967295
  ·rw[an c1,aa,ua1 _ wW,aa,Jl,aa,aA]
   by_cases c2:y.ds.getD k 0+1 < 4294967296
   ·rw[an c2,aa,uq,aa,Jl,aa,aA]
    by_cases c3:(x.ds.getD (k+i+1) 0 * 4294967296+x.ds.getD (k+i) 0) / (y.ds.getD k 0+1) < 4294967296
    ·rw[an c3,aa,uq,aa,BP,aa,aA,aj (by omega)];exact ⟨_,_,rfl,qge,qle,by omega⟩
    ·rw[aj c3,u0,aa,aA,aj (Nat.not_lt_zero _)];exact ⟨0,_,rfl,lC _,qle,by omega⟩
   ·rw[aj c2,u0,aa,aA,aj (Nat.not_lt_zero _)];exact ⟨0,_,rfl,lC _,qle,by omega⟩
  ·rw[aj c1,ua1 _ wW,aa,Jl,aa,aA]
   by_cases c2:y.ds.getD k 0+1 < 4294967296
   ·rw[an c2,aa,uq,aa,Jl,aa,aA]
    by_cases c3:(x.ds.getD (k+i+1) 0 * 4294967296+x.ds.getD (k+i) 0) / (y.ds.getD k 0+1) < 4294967296
    ·rw[an c3,aa,uq,aa,uaB,aa,aA,aj (by omega)];exact ⟨_,4294967295,rfl,qge,by omega,by omega⟩
    ·rw[aj c3,u0B,aa,oP];exact ⟨0,4294967295,rfl,lC _,by omega,by omega⟩
   ·rw[aj c2,u0B,aa,oP];exact ⟨0,4294967295,rfl,lC _,by omega,by omega⟩
 obtain ⟨lo,fR,k1,k2⟩:=key;exact ⟨lo,fR,cM _ _ (u7 (jX _ _) (jX _ _)) rfl k1,k2⟩
end Go.Ab
namespace Go.Ab
open Go.Proofs.Tryz
theorem UR {b s d:Nat} (hd:d < 4294967296):(aD (4294967296 ^ s * (b * d))).length<=s+((aD b).length+1):=by
 refine nN ?_;rw[rm];refine Nat.mul_lt_mul_of_pos_left ?_ (Nat.pow_pos (by omega));have h:=nc (gm b);rw[gz] at h;rw[jW];exact Nat.mul_lt_mul'' h hd
theorem qhL {a b i q:Nat} (K:KT) (x9:AV) (m:af) (la:(aD a).length < 2 ^ 40) (lb:(aD b).length < 2 ^ 40) (hi:i < 2 ^ 39) (lb2:(aD b).length+i+1 < 2 ^ 40) (hq:q=a / (b * 4294967296 ^ i)) (hb:0 < b):∀ (r lo fR:Nat),fR - lo<=r->lo<=q->q<=fR->fR < 4294967296 ->
  CQ (bK a).av (bK b).av x9 (.int .i64 i) (.int .u64 lo) (.int .u64 fR) m K=K (.exit 2) (Li (bK a).av (bK b).av x9 (.int .i64 i) (.int .u64 q) m):=by
 have Oc:0 < 4294967296 ^ i:=Nat.pow_pos (by omega);have hbp:0 < b * 4294967296 ^ i:=Nat.mul_pos hb Oc;intro r
 induction r with
 | zero=>
  intro lo fR hr h1 h2 h3;have:lo=q:=by omega
  subst this;rw[Q7,cW,aa,aA,aj (by omega)]
 | succ r ih=>
  intro lo fR hr h1 h2 h3;rw[Q7,cW,aa,aA]
  by_cases hlt:lo < fR
  ·have u1:∀ a:Nat,a < 4294967296->ag .other .add (.int .u64 a) (.int .u64 1)=some (.int .u64 (a+1:Nat)):=fun a h=>n8 (b:=1) (by omega);have u2:∀ a:Nat,a < 4294967298->ag .other .quo (.int .u64 a) (.int .u64 2)=some (.int .u64 (a / 2:Nat)):=fun a h=>zU (b:=2) (by omega) (by omega);rw[an hlt,zV (by omega) (by omega),aa,u1 _ (by omega),aa,u2 _ (by omega),aa,n8 (by omega),aa];generalize Wj:lo+(fR - lo+1) / 2=mid;have lQ:lo < mid:=by omega
   have fS:mid<=fR:=by omega
   have hpl:=UR (b:=b) (s:=i) (d:=mid) (by omega);rw[E4 (iD b) (fW _ _) (fW _ _),S6 (ik lb) (by omega) (by omega),aS,aa,fO,fe (iD _) (iD a),Dw (ik (by omega)) (ik la),aS,aa,sr,aa,aA,fO,fO]
   have Iw:gW (4294967296 ^ i * (b * mid)) a<=0↔mid<=q:=by
    rw[hq,Hg hbp];have e:mid * (b * 4294967296 ^ i)=4294967296 ^ i * (b * mid):=by rw[cO,cO b,fF]
    rw[e];unfold gW
    constructor
    ·intro h;apply wk;intro hc;rw[aj (by omega),an hc] at h;omega
    ·intro h
     split
     ·omega
     ·rw[aj (by omega)];omega
   by_cases hc:mid<=q
   ·rw[an (Iw.2 hc)];exact ih mid fR (by omega) hc h2 h3
   ·rw[aj (fun h=>hc (Iw.1 h)),J2 (by omega) (by omega),aa];exact ih lo (mid - 1) (by omega) h1 (by omega) (by omega)
  ·have:lo=q:=by omega
   subst this;rw[aj hlt]
structure DInv (a0 b la j:Nat) (a:Nat) (q:List Nat):Prop where
 dq:Dg q
 lq:q.length=la
 lt:a < b * 4294967296 ^ j
 eq:wn q j (la - j) * (b * 4294967296 ^ j)+a=a0
theorem DInv.step {a0 b la j a:Nat} {q:List Nat} (hb:0 < b) (hj:j < la) (h:DInv a0 b la (j+1) a q) :
  a / (b * 4294967296 ^ j) < 4294967296/\DInv a0 b la j (a % (b * 4294967296 ^ j)) (q.set j (a / (b * 4294967296 ^ j))):=by
 have hp:0 < b * 4294967296 ^ j:=Nat.mul_pos hb (Nat.pow_pos (by omega));have e0:b * 4294967296 ^ (j+1)=4294967296 * (b * 4294967296 ^ j):=by rw[jW,<- fF,cO]
 have hlt:=h.lt;have heq:=h.eq;rw[e0] at hlt heq;have hq:a / (b * 4294967296 ^ j) < 4294967296:=by rw[uO hp];exact hlt
 refine ⟨hq,h.dq.set _ _ hq,by rw[a8,h.lq],kA _ hp,?_⟩;obtain ⟨r,hr⟩:∃ r,la - j=r+1:=⟨la - j - 1,by omega⟩;rw[hr,Fu,rz (by rw[h.lq];exact hj),uD (by omega),<- heq,show la - (j+1)=r by omega];have h2:=wj a (b * 4294967296 ^ j);generalize b * 4294967296 ^ j=p at *;rw[im,cO (a / p),cO 4294967296,fF];omega
theorem qhK {a0 b la:Nat} (K:KT) (hb:0 < b) (lla:la < 2 ^ 39) (l0:(aD a0).length < 2 ^ 39) (lb:(aD b).length < 2 ^ 39):∀ (j a:Nat) (q:List Nat),j<=la->a<=a0->DInv a0 b la j a q ->
  ∃ a' q',DInv a0 b la 0 a' q'/\GJ (bK a).av (bK b).av (.arr 0 0 la none) (.int .i64 ((j:Int) - 1)) [oc q] K=K (.exit 0) (Lh (bK a').av (.arr 0 0 la none) [oc q']):=by
 intro j
 induction j with
 | zero=>
  intro a q _ _ hI;refine ⟨a,q,hI,?_⟩;rw[Q6];simp[kK,aw]
 | succ j ih=>
  intro a q hj ha hI;obtain ⟨hq,D3⟩:=hI.step hb (by omega);have la':(aD a).length < 2 ^ 39:=jJ (kX ha) l0;have yX:=hI.lq;obtain ⟨a',q',i1,i2⟩:=ih _ _ (by omega) (ef (Nat.mod_le _ _) ha) D3;refine ⟨a',q',i1,?_⟩;have lL:b≠0:=by omega
  have vq:(aD b).length≠0:=fun e=>lL (nq.1 e);obtain ⟨lo,fR,g1,g2,g3,g4⟩:=qhp (i:=j) (n:=(aD b).length) (ik (n:=a) (by omega)) (ik (n:=b) (by omega)) (by omega) (by rw[ki]) (by omega) (by rw[ki];exact H9 lL) (by rw[fO,fO];exact hq);rw[fO,fO] at g2 g3;rw[Q6,show ((j+1:Nat):Int) - 1=(j:Nat) by omega,EW,aa,oQ,E4 (iD a) (iD b) (fW _ _),g1,aS,aa];simp only[aZ]
  rw[show ([AV.int .u64 lo,AV.int .u64 fR]:List AV)[0]?=some (.int .u64 lo) from rfl,show ([AV.int .u64 lo,AV.int .u64 fR]:List AV)[1]?=some (.int .u64 fR) from rfl,aa,aa,
   qhL (Ks K) _ _ (by omega) (by omega) (by omega) (by omega) rfl hb (fR - lo) lo fR (aR _) g2 g3 g4]
  have hpl:=UR (b:=b) (s:=j) (d:=a / (b * 4294967296 ^ j)) hq;have he:4294967296 ^ j * (b * (a / (b * 4294967296 ^ j)))=b * 4294967296 ^ j * (a / (b * 4294967296 ^ j)):=by rw[<- fF,cO b]
  have ic:a - 4294967296 ^ j * (b * (a / (b * 4294967296 ^ j)))=a % (b * 4294967296 ^ j):=by
   rw[he];have:=wj a (b * 4294967296 ^ j);omega
  have hle:¬ a < 4294967296 ^ j * (b * (a / (b * 4294967296 ^ j))):=by
   rw[he];have:=wj a (b * 4294967296 ^ j);omega
  rw[qcl,mK,aa,lB hq,ga (by omega),aa,pz (m:=[oc q]) (n:=0) (ds:=q) rfl (by omega),aa,E4 (iD b) (fW _ _) (fW _ _),S6 (ik (n:=b) (by omega)) hq (by omega),aS,aa,fO,
   fe (iD a) (iD (4294967296 ^ j * (b * (a / (b * 4294967296 ^ j))))),Dx (ik (n:=a) (by omega)) (ik (n:=4294967296 ^ j * (b * (a / (b * 4294967296 ^ j)))) (by omega)) (jQ a) (jQ (4294967296 ^ j * (b * (a / (b * 4294967296 ^ j))))),aS,aa]
  unfold Cc;rw[fO,fO,aj hle,ic];simp only[aZ];rw[show ([(bK (a % (b * 4294967296 ^ j))).av,AV.int .i64 0]:List AV)[0]?=some (bK (a % (b * 4294967296 ^ j))).av from rfl,show ([(bK (a % (b * 4294967296 ^ j))).av,AV.int .i64 0]:List AV)[1]?=some (.int .i64 0) from rfl,aa,aa,ug (by omega),aa];exact i2
def ML (x y:NV):AV:=if y.v=0 then .tup [BT,BT,.int .i64 31] else .tup [(bK (x.v / y.v)).av,(bK (x.v % y.v)).av,.int .i64 0]
theorem qpd:(bK 0).av=aq:=by rw[bK,lF];rfl
theorem SW {x y:NV} (hx:NOk x) (hy:NOk y) (lx:(aD x.v).length < 2 ^ 39) (ly:(aD y.v).length < 2 ^ 39):AP ae 137 [x.av,y.av]=some (ML x y):=by
 have e1:=rq hx.fr;have e2:=rq hy.fr;rw[show x.fr.v=x.v from rfl] at e1;rw[show y.fr.v=y.v from rfl] at e2;have hX:=ik (n:=x.v) (by omega);have hY:=ik (n:=y.v) (by omega);unfold ML
 by_cases h0:y.v=0
 ·rw[an h0];refine cM _ _ (wL Ba Ba (jX _ _)) rfl (m:=[]) ?_;rw[HF,cG (cD x),e1,aS,aa,cG (cD y),e2,aS,aa,pv,aa,nT,aa,aA,an (nq.2 h0)]
 ·rw[aj h0];have kf:¬ (aD y.v).length=0:=fun e=>h0 (nq.1 e)
  by_cases h2:y.v < 4294967296
  ·have lR:(aD y.v).length=1:=Ia.2 ⟨h0,h2⟩
   have NG:(aD y.v).getD 0 0=y.v:=by
    rw[yD h0,pE,lB h2]
   have hlt:x.v % y.v < y.v:=kA _ (by omega);refine cM _ _ (wL (vc (x.v / y.v)) (vc (x.v % y.v)) (jX _ _)) rfl (m:=[]) ?_;have e4:=S5 (d:=y.v) hX (by omega) h2;rw[fO] at e4
   rw[HF,cG (cD x),e1,aS,aa,cG (cD y),e2,aS,aa,pv,aa,nT,aa,aA,aj kf,aa,vI,aa,aA,an lR,
    I6 (by rw[ki,lR];omega),aa,kT,aa,ki,NG,mJ _ h2,aa,fe (iD _) (fW _ _),e4,aS,aa]
   simp only[aZ]
   rw[show ([(bK (x.v / y.v)).av,AV.int .u64 (x.v % y.v:Nat)]:List AV)[0]?=some (bK (x.v / y.v)).av from rfl,show ([(bK (x.v / y.v)).av,AV.int .u64 (x.v % y.v:Nat)]:List AV)[1]?=some (AV.int .u64 (x.v % y.v:Nat)) from rfl,aa,aa,
    cG (fW _ _),Dv (by omega),aS,aa]
  ·have lR:¬ (aD y.v).length=1:=fun e=>h2 (Ia.1 e).2
   by_cases h3:(aD x.v).length < (aD y.v).length
   ·have hlt:x.v < y.v:=by
     apply Nat.lt_of_not_le;intro h;have:=kX h;omega
    rw[Nat.div_eq_of_lt hlt,lB hlt];refine cM _ _ (wL (vc 0) (vc x.v) (jX _ _)) rfl (m:=[]) ?_
    rw[HF,cG (cD x),e1,aS,aa,cG (cD y),e2,aS,aa,pv,aa,nT,aa,aA,aj kf,aa,vI,aa,aA,aj lR,
     pv,aa,aa,cW,aa,aA,an h3,qpd]
   ·have hb:0 < y.v:=oX h0
    have hI:DInv x.v y.v (aD x.v).length ((aD x.v).length - (aD y.v).length+1) x.v (List.replicate (aD x.v).length 0):=by
     refine ⟨yC _,uK,?_,?_⟩
     ·have h4:=nc (gm x.v);rw[gz] at h4;have h5:=Ib (n:=y.v) (k:=(aD y.v).length - 1) (by omega);refine rj h4 ?_;refine ef ?_ (iS _ h5);rw[<- rm];exact pY (by omega) (by omega)
     ·rw[Qe _ (fun k _=>Io _ _),yg,br]
    obtain ⟨a',q',i1,i2⟩:=qhK (Kr (aE ae.P f137.results.toList)) hb lx lx ly _ _ _ (by omega) (aR _) hI;have heq:=i1.eq;have hlt:=i1.lt;have yX:=i1.lq;rw[Nat.pow_zero,mI] at heq hlt;rw[Nat.sub_zero,Fv,jo (by omega)] at heq;obtain ⟨k1,k2⟩:=wG heq.symm hlt;refine cM _ _ (wL (vc (x.v / y.v)) (vc (x.v % y.v)) (jX _ _)) rfl (m:=[none]) ?_;have hp:=xr (cp:=AP ae) (g:=133) (m:=[oc q']) (nm:=0) (ds:=q') rfl;rw[yX] at hp
    rw[HF,cG (cD x),e1,aS,aa,cG (cD y),e2,aS,aa,pv,aa,nT,aa,aA,aj kf,aa,vI,aa,aA,aj lR,
     pv,aa,aa,cW,aa,aA,aj h3,aa,xj (by omega) (by omega),aa,aa,aa,nD (by omega) (by omega),aa]
    rw[show (((aD x.v).length - (aD y.v).length+1:Nat):Int) - 1=(((aD x.v).length - (aD y.v).length:Nat):Int) by omega] at i2
    refine Eq.trans ?_ (i2.trans ?_)
    ·rfl
    rw[qcg,hp,yi _ i1.dq (by simp only[yX];omega),aS,aa];simp only[NV.v] at k1 k2 ⊢;rw[k1,k2]
    rfl
end Go.Ab
namespace Go.Ab
open Go.Proofs.Tryz
theorem qqq {tk:TK} {a:Nat} (h:a < 4294967296):ag tk .quo (.int .u32 a) (.int .u32 2)=some (.int .u32 (a / 2:Nat)):=by
 have e:ag tk .quo (.int .u32 a) (.int .u32 2)=some (.int .u32 (IntKind.wrap .u32 ((a:Int).tdiv 2))):=by cases tk<;>rfl
 have e2:(a:Int).tdiv 2=((a / 2:Nat):Int):=rfl;rw[e,e2,z8 (by omega) (by omega)]
theorem qhJ (K:KT) (m:af):∀ (r x n:Nat),x < 2 ^ r->r<=32->n+r < 2 ^ 60->∃ k,k<=n+r/\(0 < n\/0 < x->0 < k)/\(n=0->x=0->k=0)/\GI (.int .i64 n) (.int .u32 x) m K=K (.exit 0) (Lg (.int .i64 k) m):=by
 intro r
 induction r with
 | zero=>
  intro x n hx hr hn;have:x=0:=by simpa using hx
  subst this;refine ⟨n,by omega,by omega,fun h _=>h,?_⟩;rw[Q5,vJ,aa,aA,aj (by omega)]
 | succ r ih=>
  intro x n hx hr hn;rw[Q5,vJ,aa,aA]
  by_cases h:x > 0
  ·have hp:2 ^ (r+1)<=2 ^ 32:=pY (by omega) hr;rw[an h,cr (by omega),aa,qqq (by omega),aa];rw[jW] at hx;obtain ⟨k,k1,k2,k3,k4⟩:=ih (x / 2) (n+1) (by omega) (by omega) (by omega);exact ⟨k,by omega,fun _=>k2 (.inl (by omega)),by omega,k4⟩
  ·rw[aj h];exact ⟨n,by omega,by omega,fun h _=>h,rfl⟩
theorem qhj {x:NV} (hx:NOk x):∃ k:Nat,AP ae 136 [x.av]=some (.int .i64 k)/\(k=0↔x.v=0):=by
 have lx:=hx.v_len';have e1:=rq hx.fr;rw[show x.fr.v=x.v from rfl] at e1
 by_cases h0:x.v=0
 ·refine ⟨0,iw (m:=[]) (v:=.int .i64 (0:Nat)) ?_ (fW _ _ _) (by simp[jd]),by simp[h0]⟩;rw[SF,cG (cD x),e1,aS,aa,pv,aa,nT,aa,aA,an (nq.2 h0)]
  rfl
 ·have kf:¬ (aD x.v).length=0:=fun e=>h0 (nq.1 e);have pf:=H9 h0;have hd:=gm x.v ((aD x.v).length - 1);obtain ⟨k,k1,k2,k3,k4⟩:=qhJ (Kq (aE ae.P f136.results.toList)) [] 32 ((aD x.v).getD ((aD x.v).length - 1) 0) (32 * ((aD x.v).length - 1)) (by omega) (by omega) (by omega)
  have m32:∀ a:Nat,a < 2 ^ 41->ag .other .mul (.int .i64 32) (.int .i64 a)=some (.int .i64 (32 * a:Nat)):=by
   intro a ha;rw[wC,iQ (by omega) (by omega)];rfl
  have tZ:=k2 (.inr (oX pf));refine ⟨k,iw (m:=[]) (v:=.int .i64 (k:Nat)) ?_ (fW _ _ _) (by simp[jd]),by omega⟩;rw[SF,cG (cD x),e1,aS,aa,pv,aa,nT,aa,aA,aj kf,aa,ph (by omega) (by omega),aa,m32 _ (by omega),aa,aa,ph (by omega) (by omega),aa,mV (by rw[ki];omega),aa,kT,aa,ki];refine k4.trans ?_;rw[qcd]
theorem MS {a:Nat} (h:a % 2=0):2 * (a / 2)=a:=by omega
theorem Vh {a b:Nat} (ha:a % 2=0) (hb:b % 2=1):Nat.gcd (a / 2) b=Nat.gcd a b:=by
 have hc:Nat.Coprime 2 b:=by
  rw[Nat.coprime_iff_gcd_eq_one,Nat.gcd_rec,hb]
  rfl
 have:=Nat.Coprime.gcd_mul_left_cancel (a / 2) hc;rw[MS ha] at this;exact this.symm
theorem Iu {a:Nat} (h:(aD a).length < 2 ^ 39):(aD (a / 2)).length < 2 ^ 39:=jJ (kX (AM _ _)) h
theorem qhE (K:KT) (m:af):∀ (n x y:Nat),y=n->x < 18446744073709551616->y < 18446744073709551616->Gy (.int .u64 x) (.int .u64 y) m K=K (.exit 0) (K7 (.int .u64 (Nat.gcd x y:Nat)) m):=by
 intro n
 induction n using Nat.strongRecOn with
 | ind n ih=>
  intro x y hn hx hy;rw[qfP,qob,aa,aA]
  by_cases h:y=0
  ·rw[aj (fun hh=>hh h),h,Nat.gcd_zero_right]
  ·have hlt:x % y < y:=kA _ (oX h);rw[an h,Ch h hx,aa,ih (x % y) (by omega) y (x % y) rfl hy (by omega),uP y,<- Nat.gcd_rec,uP]
theorem qhA (K:KT) (m:af):∀ (n a b t:Nat),a=n->0 < a->0 < b->0 < t->(aD (a * t)).length < 2 ^ 39->(aD a).length < 2 ^ 39->(aD b).length < 2 ^ 39->(aD t).length < 2 ^ 39 ->
  ∃ a' b' t',0 < a'/\0 < b'/\0 < t'/\a'<=a/\b'<=b/\(a' % 2=1\/b' % 2=1)/\Nat.gcd a' b' * t'=Nat.gcd a b * t/\(aD t').length < 2 ^ 39/\An (bK a).av (bK b).av (bK t).av m K=K (.exit 2) (Hm (bK a').av (bK b').av (bK t').av m):=by
 intro n
 induction n using Nat.strongRecOn with
 | ind n ih=>
  intro a b t hn ha hb ht iF la lb lt;rw[qfL,cG (iD a),HM (ik (by omega)),fO,aS,aa,aA]
  by_cases h1:a % 2=0
  ·rw[an h1,cG (iD b),HM (ik (by omega)),fO,aS,aa,aA]
   by_cases h2:b % 2=0
   ·have ea:=MS h1;have eb:=MS h2
    have e:a / 2 * (t+t)=a * t:=by
     rw[<- Nat.mul_two,<- fF,Nat.mul_right_comm,cO (a / 2) 2,ea]
    have ltt:(aD (t+t)).length < 2 ^ 39:=by
     refine jJ (kX (b:=a * t) ?_) iF;rw[<- e];exact Nat.le_mul_of_pos_left _ (by omega)
    obtain ⟨a',b',t',k1,k2,k3,k4,k5,k6,k7,k8,k9⟩:=ih (a / 2) (by omega) (a / 2) (b / 2) (t+t) rfl (by omega) (by omega) (by omega) (by rw[e];exact iF) (Iu la) (Iu lb) ltt
    refine ⟨a',b',t',k1,k2,k3,by omega,by omega,k6,?_,k8,?_⟩
    ·rw[k7]
     have:Nat.gcd a b=2 * Nat.gcd (a / 2) (b / 2):=by
      conv=>lhs;rw[<- ea,<- eb]
      exact Nat.gcd_mul_left _ _ _
     rw[this,<- Nat.mul_two,<- fF,Nat.mul_right_comm,cO _ 2]
    ·rw[an h2,cG (iD a),HN (ik (by omega)),fO,aS,aa,cG (iD b),HN (ik (by omega)),fO,aS,aa,fe (iD t) (iD t),Tf (ik (by omega)) (ik (by omega)) (jQ _) (jQ _),fO,aS,aa];exact k9
   ·rw[aj h2];exact ⟨a,b,t,ha,hb,ht,aR _,aR _,.inr (by omega),rfl,lt,rfl⟩
  ·rw[aj h1];exact ⟨a,b,t,ha,hb,ht,aR _,aR _,.inl (by omega),rfl,lt,rfl⟩
theorem qhC (K:KT) (m:af) (xb xt:AV) (b:Nat):∀ (n a:Nat),a=n->0 < a->(a % 2=1\/b % 2=1)->(aD a).length < 2 ^ 39 ->
  ∃ a',0 < a'/\a'<=a/\a' % 2=1/\Nat.gcd a' b=Nat.gcd a b/\Gw (bK a).av xb xt m K=K (.exit 6) (K5 (bK a').av xb xt m):=by
 intro n
 induction n using Nat.strongRecOn with
 | ind n ih=>
  intro a hn ha mf la;rw[qfN,cG (iD a),HM (ik (by omega)),fO,aS,aa,aA]
  by_cases h1:a % 2=0
  ·have hb1:b % 2=1:=by omega
   obtain ⟨a',k1,k2,k3,k4,k5⟩:=ih (a / 2) (by omega) (a / 2) rfl (by omega) (.inr hb1) (Iu la);rw[an h1,cG (iD a),HN (ik (by omega)),fO,aS,aa];exact ⟨a',k1,by omega,k3,by rw[k4,Vh h1 hb1],k5⟩
  ·rw[aj h1];exact ⟨a,ha,aR _,by omega,rfl,rfl⟩
theorem qhD (K:KT) (m:af) (xa xt:AV) (a:Nat) (ha:a % 2=1):∀ (n b:Nat),b=n->0 < b->(aD b).length < 2 ^ 39 ->
  ∃ b',0 < b'/\b'<=b/\b' % 2=1/\Nat.gcd a b'=Nat.gcd a b/\Gx xa (bK b).av xt m K=K (.exit 8) (K6 xa (bK b').av xt m):=by
 intro n
 induction n using Nat.strongRecOn with
 | ind n ih=>
  intro b hn hb lb;rw[qfO,cG (iD b),HM (ik (by omega)),fO,aS,aa,aA]
  by_cases h1:b % 2=0
  ·obtain ⟨b',k1,k2,k3,k4,k5⟩:=ih (b / 2) (by omega) (b / 2) rfl (by omega) (Iu lb);rw[an h1,cG (iD b),HN (ik (by omega)),fO,aS,aa];exact ⟨b',k1,by omega,k3,by rw[k4,uP a,Vh h1 ha,uP],k5⟩
  ·rw[aj h1];exact ⟨b,hb,aR _,by omega,rfl,rfl⟩
theorem qhB (K:KT) (m:af) (xt:AV):∀ (n a b:Nat),a+b=n->0 < a->(a % 2=1\/b % 2=1)->(aD a).length < 2 ^ 39->(aD b).length < 2 ^ 39 ->
  CN (bK a).av (bK b).av xt m K=K (.exit 4) (K4 (bK (Nat.gcd a b)).av xt m):=by
 intro n
 induction n using Nat.strongRecOn with
 | ind n ih=>
  intro a b hn ha mf la lb;rw[qfM,pv,aa,vJ,aa,aA]
  by_cases hb:b=0
  ·rw[aj (by rw[hb,lF];simp),hb,Nat.gcd_zero_right]
  ·have vq:(aD b).length≠0:=fun e=>hb (nq.1 e);obtain ⟨a',k1,k2,k3,k4,k5⟩:=qhC (Ki K) m (bK b).av xt b a a rfl ha mf la;obtain ⟨b',j1,j2,j3,j4,j5⟩:=qhD (Kj K) m (bK a').av xt a' k3 b b rfl (by omega) lb;have la':(aD a').length < 2 ^ 39:=jJ (kX k2) la;have lb':(aD b').length < 2 ^ 39:=jJ (kX j2) lb;rw[an (by omega),k5,qbn,j5,qbr,fe (iD a') (iD b'),Dw (ik (by omega)) (ik (by omega)),fO,fO,aS,aa,gY,aa,aA];have hg:Nat.gcd a' b'=Nat.gcd a b:=by rw[j4,k4]
   by_cases IE:a' > b'
   ·have hc:gW a' b' > 0:=by unfold gW;rw[aj (by omega),an IE];omega
    rw[an hc,fe (iD a') (iD b'),Dx (ik (by omega)) (ik (by omega)) (jQ _) (jQ _),Cc,fO,fO,aj (by omega),aS,aa];simp only[aZ];rw[show ([(bK (a' - b')).av,AV.int .i64 0]:List AV)[0]?=some (bK (a' - b')).av from rfl,show ([(bK (a' - b')).av,AV.int .i64 0]:List AV)[1]?=some (.int .i64 0) from rfl,aa,aa];have lab:(aD (a' - b')).length < 2 ^ 39:=jJ (kX (Nat.sub_le _ _)) la';rw[ih (b'+(a' - b')) (by omega) b' (a' - b') rfl j1 (.inl j3) lb' lab]
    have:Nat.gcd b' (a' - b')=Nat.gcd a b:=by
     rw[<- hg,Nat.gcd_sub_self_right (by omega),uP]
    rw[this]
   ·have hc:¬ gW a' b' > 0:=by unfold gW;split<;>first | omega | (rw[aj IE];omega)
    rw[aj hc,fe (iD b') (iD a'),Dx (ik (by omega)) (ik (by omega)) (jQ _) (jQ _),Cc,fO,fO,aj (by omega),aS,aa];simp only[aZ];rw[show ([(bK (b' - a')).av,AV.int .i64 0]:List AV)[0]?=some (bK (b' - a')).av from rfl,show ([(bK (b' - a')).av,AV.int .i64 0]:List AV)[1]?=some (.int .i64 0) from rfl,aa,aa];have lab:(aD (b' - a')).length < 2 ^ 39:=jJ (kX (Nat.sub_le _ _)) lb';rw[ih (a'+(b' - a')) (by omega) a' (b' - a') rfl k1 (.inl k3) la' lab]
    have:Nat.gcd a' (b' - a')=Nat.gcd a b:=by
     rw[<- hg,Nat.gcd_sub_self_right (by omega)]
    rw[this]
theorem qhf {x y:NV} (hx:NOk x) (hy:NOk y) (lx:(aD x.v).length < 2 ^ 38) (ly:(aD y.v).length < 2 ^ 38):AP ae 119 [x.av,y.av]=some (bK (Nat.gcd x.v y.v)).av:=by
 have e1:=rq hx.fr;have e2:=rq hy.fr;rw[show x.fr.v=x.v from rfl] at e1;rw[show y.fr.v=y.v from rfl] at e2;have s1:=SY (ik (n:=x.v) (by omega));have s2:=SY (ik (n:=y.v) (by omega));rw[fO] at s1 s2
 have hx1:∀ n,aZ (te n) 1=some (.bool (decide (n < 18446744073709551616))):=by
  intro n;unfold te;split<;>(rename_i h;simp[aZ,h])
 have hx0:∀ n,∃ k:Nat,aZ (te n) 0=some (.int .u64 k)/\(n < 18446744073709551616->k=n):=by
  intro n;unfold te
  split
  ·exact ⟨n,rfl,fun _=>rfl⟩
  ·rename_i h;exact ⟨0,rfl,fun h'=>absurd h' h⟩
 obtain ⟨kx,Bs,qmu⟩:=hx0 x.v;obtain ⟨ky,hky,qmv⟩:=hx0 y.v
 have big:∀ {R:OM},R=((aK false (bK x.v).av).bind fun v9=>(ag .other .eql v9 (.int .i64 0)).bind fun v10=>aw v10 (some ((bK y.v).av,[])) (
   (aK false (bK y.v).av).bind fun v11=>(ag .other .eql v11 (.int .i64 0)).bind fun v12=>aw v12 (some ((bK x.v).av,[])) (
   (aC (AP ae) none [] 72 [(.int .u64 1)]).bind fun gh=>An (bK x.v).av (bK y.v).av gh.1 gh.2 (CB (aE ae.P f119.results.toList)))))->R=some ((bK (Nat.gcd x.v y.v)).av,[]):=by
  intro R hR;rw[hR,pv,aa,nT,aa,aA]
  by_cases h0:x.v=0
  ·rw[an (nq.2 h0),h0,Nat.gcd_zero_left]
  ·rw[aj (fun e=>h0 (nq.1 e)),pv,aa,nT,aa,aA]
   by_cases h1:y.v=0
   ·rw[an (nq.2 h1),h1,Nat.gcd_zero_right]
   ·have h70:=Dv (n:=1) (by omega);have l1:(aD 1).length < 2 ^ 39:=jJ (nN (k:=1) (by omega)) (by omega);obtain ⟨a',b',t',k1,k2,k3,k4,k5,k6,k7,k8,k9⟩:=qhA (CB (aE ae.P f119.results.toList)) [] x.v x.v y.v 1 rfl (by omega) (by omega) (by omega) (by rw[mI];omega) (by omega) (by omega) l1;have la':(aD a').length < 2 ^ 39:=jJ (kX k4) (by omega);have lb':(aD b').length < 2 ^ 39:=jJ (kX k5) (by omega);have lg:(aD (Nat.gcd a' b')).length < 2 ^ 39:=jJ (kX (Nat.gcd_le_left _ k1)) la';rw[aj (fun e=>h1 (nq.1 e)),cG (fW _ _),show AV.int .u64 1=.int .u64 ((1:Nat):Int) from rfl,h70,aS,aa,k9,qbg,qhB _ _ _ (a'+b') a' b' rfl k1 k6 la' lb',qbj,fe (iD _) (iD _),AS (ik (by omega)) (ik (by omega)),fO,fO,k7,mI]
    rfl
 refine cM _ _ (iD _) (pU _) (m:=[]) ?_;rw[qgr,cG (cD x),e1,aS,aa,cG (cD y),e2,aS,aa,cG (iD _),s1,aS,aa,Bs,aa,hx1,aa,cG (iD _),s2,aS,aa,hky,aa,hx1,aa,aA]
 by_cases c1:x.v < 18446744073709551616
 ·rw[an c1,aA]
  by_cases c2:y.v < 18446744073709551616
  ·have rC:Nat.gcd x.v y.v < 18446744073709551616:=by
    by_cases h0:x.v=0
    ·rw[h0,Nat.gcd_zero_left];exact c2
    ·exact jJ (Nat.gcd_le_left _ (oX h0)) c1
   rw[an c2,qmu c1,qmv c2,qhE _ _ y.v x.v y.v rfl c1 c2,qbv,cG (fW _ _),Dv rC]
   rfl
  ·rw[aj c2];exact big rfl
 ·rw[aj c1];exact big rfl
end Go.Ab
namespace Go.Ab
def fP (neg:Bool) (n:Nat):Int:=if neg then -(n:Int) else n
def dK (neg:Bool) (n d:Nat):Rat:=mkRat (fP neg n) d
theorem B8 (neg:Bool) (n:Nat):(fP neg n).natAbs=n:=by cases neg<;>simp[fP]
theorem zK (neg:Bool) (n:Nat):dK neg n 0=0:=by simp[dK,Rat.mkRat_zero]
theorem xy (neg:Bool) (d:Nat):dK neg 0 d=0:=by
 have:fP neg 0=0:=by cases neg<;>rfl
 rw[dK,this,Rat.zero_mkRat]
theorem Pv {neg:Bool} {n d:Nat} (hd:d≠0):(dK neg n d).num.natAbs=n / Nat.gcd n d:=by
 rw[dK,Rat.num_mkRat,aj hd,B8,uP]
 cases neg with
 | false=>rfl
 | true=>
  have Ec:((Nat.gcd n d:Nat):Int)∣(n:Int):=Int.natCast_dvd_natCast.2 (Nat.gcd_dvd_left _ _);show (-(n:Int) / ((Nat.gcd n d:Nat):Int)).natAbs=_;rw[Int.neg_ediv_of_dvd Ec,Int.natAbs_neg]
  rfl
theorem Pw {neg:Bool} {n d:Nat} (hd:d≠0):(dK neg n d).den=d / Nat.gcd n d:=by
 rw[dK,Rat.den_mkRat,aj hd,B8,uP]
theorem YV {neg:Bool} {n d:Nat} (hd:d≠0):decide ((dK neg n d).num < 0)=(neg && decide (n / Nat.gcd n d > 0)):=by
 have Ec:((Nat.gcd n d:Nat):Int)∣(n:Int):=Int.natCast_dvd_natCast.2 (Nat.gcd_dvd_left _ _)
 have e:(dK neg n d).num=fP neg (n / Nat.gcd n d):=by
  rw[dK,Rat.num_mkRat,aj hd,B8,uP]
  cases neg with
  | false=>rfl
  | true=>
   show -(n:Int) / ((Nat.gcd n d:Nat):Int)=_;rw[Int.neg_ediv_of_dvd Ec]
   rfl
 rw[e]
 cases neg with
 | false=>
  rw[lY];exact cT (Int.not_lt.2 (rY _))
 | true=>
  simp only[fP,bz,iN];exact jL.2 (by omega)
theorem YU {neg:Bool} {n d:Nat} (hd:d≠0):dK neg n d=0↔n=0:=by
 rw[dK,Rat.mkRat_eq_zero hd];cases neg<;>simp[fP]
theorem B3 (s t:Bool) (n d k e:Nat):dK s n d * dK t k e=dK (s != t) (n * k) (d * e):=by
 rw[dK,dK,dK,Rat.mkRat_mul_mkRat];congr 1;cases s<;>cases t<;>simp[fP,rX,Int.neg_mul,Int.mul_neg]
theorem Jw {s t:Bool} {n d k e:Nat} (hd:d≠0) (he:e≠0):dK s n d+dK t k e=mkRat (fP s (n * e)+fP t (k * d)) (d * e):=by
 rw[dK,dK,Rat.mkRat_add_mkRat _ _ hd he];congr 1;cases s<;>cases t<;>simp[fP,rX,Int.neg_mul]
theorem Zy {s:Bool} {x y:Nat}:fP s x+fP s y=fP s (x+y):=by cases s<;>simp[fP]<;>omega
theorem Zv {s t:Bool} {x y:Nat} (h:s≠t) (hxy:¬ x < y):fP s x+fP t y=fP s (x - y):=by
 cases s<;>cases t<;>simp[fP] at h ⊢<;>omega
theorem Zw {s t:Bool} {x y:Nat} (h:s≠t) (hxy:x < y):fP s x+fP t y=fP t (y - x):=by
 cases s<;>cases t<;>simp[fP] at h ⊢<;>omega
structure RV where
 neg:Bool
 num:NV
 den:NV
def RV.av (r:RV):AV:=.agg [.bool r.neg,r.num.av,r.den.av]
def RV.fr (r:RV):RV:=⟨r.neg,r.num.fr,r.den.fr⟩
def RV.q (r:RV):Rat:=dK r.neg r.num.v r.den.v
structure ROk (k:Nat) (r:RV):Prop where
 num:NOk r.num
 den:NOk r.den
 ln:r.num.ds.length<=k
 ld:r.den.ds.length<=k
theorem ROk.fr {k:Nat} {r:RV} (h:ROk k r):ROk k r.fr:=⟨h.num.fr,h.den.fr,h.ln,h.ld⟩
theorem ROk.mono {k k':Nat} {r:RV} (h:ROk k r) (hk:k<=k'):ROk k' r:=⟨h.num,h.den,ef h.ln hk,ef h.ld hk⟩
theorem RV.fr_q (r:RV):r.fr.q=r.q:=rfl
theorem hP (r:RV):Fz r.av r.fr.av:=by
 intro m;have e:bB m j8 r.av=(dU (bB m 8) [.bool r.neg,r.num.av,r.den.av]).map fun r=>(.agg r.1,r.2):=rfl;rw[e];simp[dU,Nh r.neg m 7,qH r.num m 7,qH r.den m 7,RV.fr,RV.av]
theorem kZ (r:RV):jd r.av=true:=by simp[RV.av,jd,mz,NV.av]
structure Can (r:RV) (q:Rat):Prop where
 neg:r.neg=decide (q.num < 0)
 num:r.num.ds=aD q.num.natAbs
 den:r.den.ds=aD q.den
 numz:r.num.z=true->r.num.ds=[]
 denz:r.den.z=true->r.den.ds=[]
theorem Can.q {r:RV} {q:Rat} (h:Can r q):r.q=q:=by
 rw[RV.q,NV.v,NV.v,h.num,h.den,gz,gz,h.neg,dK]
 have e:fP (decide (q.num < 0)) q.num.natAbs=q.num:=by
  by_cases hq:q.num < 0
  ·simp[fP,hq];omega
  ·simp[fP,hq];omega
 rw[e];exact Rat.mkRat_self q
def Bd (k:Nat) (q:Rat):Prop:=(aD q.num.natAbs).length<=k/\(aD q.den).length<=k
theorem Can.ok {r:RV} {q:Rat} {k:Nat} (h:Can r q) (hb:Bd k q) (hk:k < 2 ^ 40):ROk k r:=by
 refine ⟨⟨by rw[h.num];exact gm _,by rw[h.num];exact jJ hb.1 hk,h.numz⟩,⟨by rw[h.den];exact gm _,by rw[h.den];exact jJ hb.2 hk,h.denz⟩,by rw[h.num];exact hb.1,by rw[h.den];exact hb.2⟩
theorem Can.den0 {r:RV} {q:Rat} (h:Can r q):r.den.v≠0:=by
 rw[NV.v,h.den,gz];exact q.den_nz
theorem oS {a b i j:Nat} (ha:(aD a).length<=i) (hb:(aD b).length<=j):(aD (a * b)).length<=i+j:=by
 refine nN ?_;have h1:=nc (gm a);have h2:=nc (gm b);rw[gz] at h1 h2;have h3:4294967296 ^ (aD a).length<=4294967296 ^ i:=pY (by omega) ha;have h4:4294967296 ^ (aD b).length<=4294967296 ^ j:=pY (by omega) hb;rw[rm];exact Nat.mul_lt_mul'' (by omega) (by omega)
theorem OQ {a b i:Nat} (ha:(aD a).length<=i) (hb:(aD b).length<=i):(aD (a+b)).length<=i+1:=by
 refine nN ?_;have h1:=nc (gm a);have h2:=nc (gm b);rw[gz] at h1 h2;have h3:4294967296 ^ (aD a).length<=4294967296 ^ i:=pY (by omega) ha;have h4:4294967296 ^ (aD b).length<=4294967296 ^ i:=pY (by omega) hb;rw[jW];omega
theorem Ja:(aD 1).length<=1:=nN (by omega)
theorem Cv {neg:Bool} {n d k:Nat} (hn:(aD n).length<=k) (hd:(aD d).length<=k) (hk:1<=k):Bd k (dK neg n d):=by
 by_cases h0:d=0
 ·subst h0;rw[zK]
  refine ⟨?_,?_⟩
  ·show (aD 0).length<=k;rw[lF];exact lC _
  ·show (aD 1).length<=k;exact ef Ja hk
 ·refine ⟨?_,?_⟩
  ·rw[Pv h0];exact ef (kX (AM _ _)) hn
  ·rw[Pw h0];exact ef (kX (AM _ _)) hd
theorem Bd.mono {k k':Nat} {q:Rat} (h:Bd k q) (hk:k<=k'):Bd k' q:=⟨ef h.1 hk,ef h.2 hk⟩
theorem Jy (q:Rat):dK (decide (q.num < 0)) q.num.natAbs q.den=q:=by
 have e:fP (decide (q.num < 0)) q.num.natAbs=q.num:=by
  by_cases hq:q.num < 0
  ·simp[fP,hq];omega
  ·simp[fP,hq];omega
 rw[dK,e];exact Rat.mkRat_self q
theorem qaF {p q:Rat} {k l:Nat} (hp:Bd k p) (hq:Bd l q) (hk:1<=k):Bd (k+l) (p * q):=by
 rw[<- Jy p,<- Jy q,B3];exact Cv (oS hp.1 hq.1) (oS hp.2 hq.2) (by omega)
theorem qn5 (x:Int):∃ s n,x=fP s n/\n=x.natAbs:=⟨decide (x < 0),x.natAbs,by
 by_cases hq:x < 0
 ·simp[fP,hq];omega
 ·simp[fP,hq];omega,rfl⟩
theorem Qr {p q:Rat} {k l:Nat} (hp:Bd k p) (hq:Bd l q) (hk:1<=k):Bd (k+l+1) (p+q):=by
 have h1:=oS hp.1 hq.2;have h2:=oS hq.1 hp.2;rw[<- Jy p,<- Jy q,Jw p.den_nz q.den_nz];obtain ⟨s,n,e1,e2⟩:=qn5 (fP (decide (p.num < 0)) (p.num.natAbs * q.den)+fP (decide (q.num < 0)) (q.num.natAbs * p.den))
 have hle:n<=p.num.natAbs * q.den+q.num.natAbs * p.den:=by
  rw[e2];refine ef (Int.natAbs_add_le _ _) ?_;rw[B8,B8];exact aR _
 have iE:(aD (q.num.natAbs * p.den)).length<=k+l:=by omega
 have h3:=OQ h1 iE;rw[e1,<- dK];exact Cv (ef (kX hle) h3) (ef (oS hp.2 hq.2) (by omega)) (by omega)
theorem Kd {k:Nat} (hk:1<=k):Bd k 0:=⟨by show (aD 0).length<=k;rw[lF];exact lC _,ef (by show (aD 1).length<=1;exact Ja) hk⟩
theorem Kc {k:Nat} (hk:1<=k):Bd k 1:=⟨ef (by show (aD 1).length<=1;exact Ja) hk,ef (by show (aD 1).length<=1;exact Ja) hk⟩
theorem ROk.bd {k:Nat} {r:RV} (h:ROk k r) (hk:1<=k):Bd k r.q:=Cv (ef h.num.v_len h.ln) (ef h.den.v_len h.ld) hk
def nZ (r:RV):Bool:=su r.num.ds && (su r.den.ds && (decide (r.den.v≠0) && (!(decide (r.num.v=0) && r.neg) && decide (Nat.gcd r.num.v r.den.v=1))))
theorem qkU {r:RV} {q:Rat} (h:Can r q):nZ r=true:=by
 have hd:=h.den0;have e1:r.num.v=q.num.natAbs:=by rw[NV.v,h.num,gz]
 have e2:r.den.v=q.den:=by rw[NV.v,h.den,gz]
 simp only[nZ,su,cn,pJ,xV,Bool.and_eq_false_iff,decide_eq_false_iff_not]
 refine ⟨?_,?_,hd,?_,?_⟩
 ·rw[h.num,gz]
 ·rw[h.den,gz]
 ·by_cases h0:r.num.v=0
  ·right;rw[h.neg];have:q.num=0:=by omega
   rw[this];rfl
  ·exact .inl h0
 ·rw[e1,e2];exact q.reduced
end Go.Ab
namespace Go.Ab
def cR (r:RV):Option Ent:=some (.obj true [.bool r.neg,r.num.av,r.den.av])
def iv:NV:=⟨true,.full,[]⟩
def zR:RV:=⟨false,iv,iv⟩
theorem dk (m:af) (r:RV):cS none (some 3) m r.av=some (.ptr m.length 0,m++[cR r]):=rfl
theorem dZ (m:af):az none m (.obj true [.bool false,iv.av,iv.av])=(m.length,m++[cR zR]):=rfl
theorem cX (m:af):az none m .resv=(m.length,m++[some .resv]):=rfl
theorem eZ (m:af) (n:Nat):az (some n) m (.obj true [.bool false,iv.av,iv.av])=(n,m.set n (cR zR)):=rfl
theorem eY (m:af) (n:Nat):az (some n) m .resv=(n,m.set n (some .resv)):=rfl
theorem df (n:Nat):aP 0 (.ptr n 0)=some (.ptr n 0):=rfl
theorem dh (n:Nat):aP 1 (.ptr n 0)=some (.ptr n 1):=rfl
theorem dc (n:Nat):aP 2 (.ptr n 0)=some (.ptr n 2):=rfl
theorem ff (m:af):cQ m 1=m++[some .resv]:=rfl
theorem fg (m:af):cQ m 2=m++[some .resv,some .resv]:=rfl
theorem eG {M:af} {r:RV}:ai none (cR r::M) (.ptr 0 0)=some (.bool r.neg):=rfl
theorem eH {M:af} {r:RV}:ai none (cR r::M) (.ptr 0 1)=some (r.num.av):=rfl
theorem eF {M:af} {r:RV}:ai none (cR r::M) (.ptr 0 2)=some (r.den.av):=rfl
theorem dI {M:af} {r:RV}:ai (some 3) (cR r::M) (.ptr 0 0)=some r.av:=rfl
theorem dP {M:af} {r r':RV}:aM (some 3) (cR r::M) (.ptr 0 0) r'.av=some (cR r'::M):=rfl
theorem fh {M:af} {r:RV} {b:Bool}:aM none (cR r::M) (.ptr 0 0) (.bool b)=some (cR ⟨b,r.num,r.den⟩::M):=rfl
theorem eJ {c0:Option Ent} {M:af} {r:RV}:ai none (c0::cR r::M) (.ptr 1 0)=some (.bool r.neg):=rfl
theorem eK {c0:Option Ent} {M:af} {r:RV}:ai none (c0::cR r::M) (.ptr 1 1)=some (r.num.av):=rfl
theorem eI {c0:Option Ent} {M:af} {r:RV}:ai none (c0::cR r::M) (.ptr 1 2)=some (r.den.av):=rfl
theorem dp {c0:Option Ent} {M:af} {r:RV}:ai (some 3) (c0::cR r::M) (.ptr 1 0)=some r.av:=rfl
theorem dz {c0:Option Ent} {M:af} {r r':RV}:aM (some 3) (c0::cR r::M) (.ptr 1 0) r'.av=some (c0::cR r'::M):=rfl
theorem fk {c0:Option Ent} {M:af} {r:RV} {b:Bool}:aM none (c0::cR r::M) (.ptr 1 0) (.bool b)=some (c0::cR ⟨b,r.num,r.den⟩::M):=rfl
theorem eM {c0 c1:Option Ent} {M:af} {r:RV}:ai none (c0::c1::cR r::M) (.ptr 2 0)=some (.bool r.neg):=rfl
theorem eN {c0 c1:Option Ent} {M:af} {r:RV}:ai none (c0::c1::cR r::M) (.ptr 2 1)=some (r.num.av):=rfl
theorem eL {c0 c1:Option Ent} {M:af} {r:RV}:ai none (c0::c1::cR r::M) (.ptr 2 2)=some (r.den.av):=rfl
theorem dT {c0 c1:Option Ent} {M:af} {r:RV}:ai (some 3) (c0::c1::cR r::M) (.ptr 2 0)=some r.av:=rfl
theorem dW {c0 c1:Option Ent} {M:af} {r r':RV}:aM (some 3) (c0::c1::cR r::M) (.ptr 2 0) r'.av=some (c0::c1::cR r'::M):=rfl
theorem fq {c0 c1:Option Ent} {M:af} {r:RV} {b:Bool}:aM none (c0::c1::cR r::M) (.ptr 2 0) (.bool b)=some (c0::c1::cR ⟨b,r.num,r.den⟩::M):=rfl
theorem eQ {c0 c1 c2:Option Ent} {M:af} {r:RV}:ai none (c0::c1::c2::cR r::M) (.ptr 3 0)=some (.bool r.neg):=rfl
theorem eR {c0 c1 c2:Option Ent} {M:af} {r:RV}:ai none (c0::c1::c2::cR r::M) (.ptr 3 1)=some (r.num.av):=rfl
theorem eP {c0 c1 c2:Option Ent} {M:af} {r:RV}:ai none (c0::c1::c2::cR r::M) (.ptr 3 2)=some (r.den.av):=rfl
theorem eO {c0 c1 c2:Option Ent} {M:af} {r:RV}:ai (some 3) (c0::c1::c2::cR r::M) (.ptr 3 0)=some r.av:=rfl
theorem ft {c0 c1 c2:Option Ent} {M:af} {r r':RV}:aM (some 3) (c0::c1::c2::cR r::M) (.ptr 3 0) r'.av=some (c0::c1::c2::cR r'::M):=rfl
theorem fA {c0 c1 c2:Option Ent} {M:af} {r:RV} {b:Bool}:aM none (c0::c1::c2::cR r::M) (.ptr 3 0) (.bool b)=some (c0::c1::c2::cR ⟨b,r.num,r.den⟩::M):=rfl
theorem eW {c0 c1 c2 c3:Option Ent} {M:af} {r:RV}:ai none (c0::c1::c2::c3::cR r::M) (.ptr 4 0)=some (.bool r.neg):=rfl
theorem eX {c0 c1 c2 c3:Option Ent} {M:af} {r:RV}:ai none (c0::c1::c2::c3::cR r::M) (.ptr 4 1)=some (r.num.av):=rfl
theorem eU {c0 c1 c2 c3:Option Ent} {M:af} {r:RV}:ai none (c0::c1::c2::c3::cR r::M) (.ptr 4 2)=some (r.den.av):=rfl
theorem eT {c0 c1 c2 c3:Option Ent} {M:af} {r:RV}:ai (some 3) (c0::c1::c2::c3::cR r::M) (.ptr 4 0)=some r.av:=rfl
theorem fB {c0 c1 c2 c3:Option Ent} {M:af} {r r':RV}:aM (some 3) (c0::c1::c2::c3::cR r::M) (.ptr 4 0) r'.av=some (c0::c1::c2::c3::cR r'::M):=rfl
theorem fC {c0 c1 c2 c3:Option Ent} {M:af} {r:RV} {b:Bool}:aM none (c0::c1::c2::c3::cR r::M) (.ptr 4 0) (.bool b)=some (c0::c1::c2::c3::cR ⟨b,r.num,r.den⟩::M):=rfl
theorem dL (a:AV) (l:List AV):aZ (.tup (a::l)) 0=some a:=rfl
theorem dM (a b:AV) (l:List AV):aZ (.tup (a::b::l)) 1=some b:=rfl
theorem dY (a b c:AV) (l:List AV):aZ (.tup (a::b::c::l)) 2=some c:=rfl
theorem eu:fU (.agg [.bool false,iv.av,iv.av]) []=some zR.av:=rfl
theorem eD (x:NV):fU (.agg [.bool false,iv.av,iv.av]) [(2,none,x.av)]=some (RV.av ⟨false,iv,x⟩):=rfl
theorem eC (x y:NV):fU (.agg [.bool false,iv.av,iv.av]) [(1,none,x.av),(2,none,y.av)]=some (RV.av ⟨false,x,y⟩):=rfl
theorem ez (b:Bool) (x y:NV):fU (.agg [.bool false,iv.av,iv.av]) [(0,none,.bool b),(1,none,x.av),(2,none,y.av)]=some (RV.av ⟨b,x,y⟩):=rfl
theorem ee:aq=iv.av:=rfl
theorem dE (b:Bool):jn .not (.bool b)=some (.bool (!b)):=rfl
theorem dS (a b:Bool):ag .bl .neq (.bool a) (.bool b)=some (.bool (a != b)):=rfl
theorem ei (a b:Bool):ag .bl .eql (.bool a) (.bool b)=some (.bool (a == b)):=rfl
section
variable {cp:Nat->List AV->Option AV} {d:Option Nat} {m:af} {g:Nat}
theorem fc (x:NV):aC cp d m g [x.av]=(cp g [x.fr.av]).map fun v=>(v,m):=cG (cD x)
theorem dF (k:IntKind) (n:Int):aC cp d m g [.int k n]=(cp g [.int k n]).map fun v=>(v,m):=cG (fW k n)
theorem dO (x y:NV):aC cp d m g [x.av,y.av]=(cp g [x.fr.av,y.fr.av]).map fun v=>(v,m):=fe (cD x) (cD y)
theorem dV (b:Bool) (x y:NV):aC cp d m g [.bool b,x.av,y.av]=(cp g [.bool b,x.fr.av,y.fr.av]).map fun v=>(v,m):=E4 (qG b) (cD x) (cD y)
theorem dJ (r:RV):aC cp d m g [r.av]=(cp g [r.fr.av]).map fun v=>(v,m):=cG (hP r)
theorem dw (r s:RV):aC cp d m g [r.av,s.av]=(cp g [r.fr.av,s.fr.av]).map fun v=>(v,m):=fe (hP r) (hP s)
theorem dr:aC cp d m g []=(cp g []).map fun v=>(v,m):=xq
end
theorem U9 (m:af) (r:RV):bB m 8 r.av=some (r.fr.av,[]):=by
 have e:bB m 8 r.av=(dU (bB m 7) [.bool r.neg,r.num.av,r.den.av]).map fun r=>(.agg r.1,r.2):=rfl;rw[e];simp[dU,Nh r.neg m 6,qH r.num m 6,qH r.den m 6,RV.fr,RV.av]
theorem A9 (r:RV) {b b':AV} (hb:∀ m k,bB m (k+1) b=some (b',[])):Fz (.tup [r.av,b]) (.tup [r.fr.av,b']):=by
 intro m;show (dU (bB m 8) [r.av,b]).map _=_;simp[dU,U9,hb m 7]
end Go.Ab
namespace Go.Ab
structure LV where
 sh:Sh
 z:Bool
 o:Own
 es:List RV
def LV.av (l:LV):AV:=.lst l.sh l.z l.o (l.es.map RV.av)
def LV.fr (l:LV):LV:=⟨l.sh,l.z,l.o.fr,l.es⟩
structure LOk (k:Nat) (l:LV):Prop where
 sh:l.sh=some 3\/l.es=[]
 z:l.z=true->l.es=[]
 fr:∀ r∈l.es,r.fr=r
 ok:∀ r∈l.es,ROk k r
structure MV where
 rows:Int
 cols:Int
 lv:LV
theorem LOk.fr' {k:Nat} {l:LV} (h:LOk k l):LOk k l.fr:=⟨h.sh,h.z,h.fr,h.ok⟩
theorem Nf (x:LV):Fz x.av x.fr.av:=fun m=>p8 x.sh x.z x.o (x.es.map RV.av) m 8
theorem zq (l:LV):aK false l.av=some (.int .i64 l.es.length):=by simp[LV.av,aK]
theorem BD {l:LV} {k k':Nat} {kk:IntKind} (h:LOk k' l) (hk:k < l.es.length):aF (some 3) l.av (.int kk k)=some (.vptr (l.es[k].av).cells):=by
 have hs:l.sh=some 3:=h.sh.resolve_right (fun e=>by rw[e] at hk;simp at hk);simp[LV.av,aF,hs,hk]
theorem BL (m:af) (r:RV):ai (some 3) m (.vptr r.av.cells)=some r.av:=rfl
theorem qkN {r:RV} (h:r.fr=r):dH (some 3) [r.av]=some (.lst (some 3) false .full [r.av]):=by
 obtain ⟨n,⟨z1,o1,d1⟩,⟨z2,o2,d2⟩⟩:=r;simp only[RV.fr,NV.fr,RV.mk.injEq,NV.mk.injEq,true_and,and_true] at h;cases o1<;>cases o2<;>simp[Own.fr] at h<;>rfl
def X9:LV:=⟨none,true,.full,[]⟩
theorem pT {m:af} {n:Nat} {bx:Bool} {cs:List AV} (h:m[n]?=some (some (.obj bx cs))):m.obj? n=some (bx,cs):=by simp[af.obj?,af.get,h]
theorem B6 {m:af} {n:Nat} {x:RV} (h:m[n]?=some (cR x)):ai (some 3) m (.ptr n 0)=some x.av:=by
 simp[ai,pT h,kD,RV.av]
theorem Zd {m:af} {n:Nat} {x:RV} (h:m[n]?=some (cR x)):ai none m (.ptr n 1)=some x.num.av:=by simp[ai,pT h,kD]
theorem Ze {m:af} {n:Nat} {x:RV} (h:m[n]?=some (cR x)):ai none m (.ptr n 2)=some x.den.av:=by simp[ai,pT h,kD]
theorem Zh {m:af} {n:Nat} {x y:RV} (h:m[n]?=some (cR x)):aM (some 3) m (.ptr n 0) y.av=some (m.set n (cR y)):=by
 simp only[aM,pT h,aa]
 rfl
def Kp (m m':af):Prop:=m.length<=m'.length/\∀ (n:Nat) (bx:Bool) (cs:List AV),m[n]?=some (some (Ent.obj bx cs))->m'[n]?=some (some (Ent.obj bx cs))
theorem Kp.app (m e:af):Kp m (m++e):=⟨by simp,fun n bx cs h=>by
 have hn:n < m.length:=by
  apply qw;intro hc;rw[ow (by omega)] at h;cases h
 rw[nK hn];exact h⟩
def L3 (m:af) (l:LV):Prop:=(l=X9)\/(l.sh=some 3/\l.z=false/\l.es≠[]/\∃ nm,l.o=.tok nm 43/\m[nm]?=some (some (.tok l.es.length 3)))
theorem L3.app {m:af} {l:LV} (h:L3 m l) (e:af):L3 (m++e) l:=by
 rcases h with h | ⟨h1,h2,h3,nm,h4,h5⟩
 ·exact .inl h
 ·refine .inr ⟨h1,h2,h3,nm,h4,?_⟩
  have hn:nm < m.length:=by
   apply qw;intro hc;rw[ow (by omega)] at h5;cases h5
  rw[nK hn];exact h5
theorem Nk {m:af} {e:Option Ent}:(m++[e])[m.length]?=some e:=by simp
end Go.Ab
namespace Go.Ab
noncomputable section
open Go.Proofs.Tryz
theorem qgn (a0 a1:AV) (m:af):AC ae 113 [a0,a1] m=(cS none (some 3) m a0).bind fun r1=>(cS none (some 3) r1.2 a1).bind fun r2=>(ai (some 3) r2.2 r1.1).bind fun v3=>(ai (some 3) r2.2 r2.1).bind fun v4=>(aC (AP ae) none r2.2 153 [v3,v4]).bind fun r5=>(ag .other .eql r5.1 (.int .i64 0)).bind fun v6=>some (v6,r5.2):=
(bj ae 113 [a0,a1] m (fn:=f113) (c:=aB f113) qiK rfl).trans (by kernel_rfl)
theorem Dt (a0 a1:AV) (m:af):AC ae 71 [a0,a1] m=(cS none (some 3) m a0).bind fun r1=>(cS none (some 3) r1.2 a1).bind fun r2=>(ai (some 3) (az none r2.2 (.obj true [(.bool false),aq,aq])).2 r1.1).bind fun v3=>(aC (AP ae) none (az none r2.2 (.obj true [(.bool false),aq,aq])).2 129 [v3]).bind fun r4=>(ag .other .eql r4.1 (.int .i64 0)).bind fun v5=>aw v5 ((aP 0 r2.1).bind fun v6=>(ai none r4.2 v6).bind fun v7=>(aP 1 r2.1).bind fun v8=>(ai none r4.2 v8).bind fun v9=>(aP 2 r2.1).bind fun v10=>(ai none r4.2 v10).bind fun v11=>(aC (AP ae) none r4.2 126 [v7,v9,v11]).bind fun gF=>(aM (some 3) gF.2 (.ptr (az none r2.2 .resv).1 0) gF.1).bind fun m13=>(ai (some 3) m13 (.ptr (az none r2.2 .resv).1 0)).bind fun bg=>some (bg,m13)) ((ai (some 3) r4.2 r2.1).bind fun bo=>(aC (AP ae) none r4.2 129 [bo]).bind fun fJ=>(ag .other .eql fJ.1 (.int .i64 0)).bind fun bD=>aw bD ((aP 0 r1.1).bind fun dQ=>(ai none fJ.2 dQ).bind fun c8=>(aP 1 r1.1).bind fun v20=>(ai none fJ.2 v20).bind fun v21=>(aP 2 r1.1).bind fun v22=>(ai none fJ.2 v22).bind fun v23=>(aC (AP ae) none fJ.2 126 [c8,v21,v23]).bind fun mE=>(aM (some 3) mE.2 (.ptr (az none r2.2 .resv).1 0) mE.1).bind fun m25=>(ai (some 3) m25 (.ptr (az none r2.2 .resv).1 0)).bind fun v26=>some (v26,m25)) ((aP 1 r1.1).bind fun jt=>(ai none fJ.2 jt).bind fun v28=>(aP 2 r2.1).bind fun jS=>(ai none fJ.2 jS).bind fun v30=>(aC (AP ae) (some fJ.2.length) fJ.2 127 [v28,v30]).bind fun s9=>(aP 1 r2.1).bind fun lW=>(ai none s9.2 lW).bind fun oV=>(aP 2 r1.1).bind fun pW=>(ai none s9.2 pW).bind fun mG=>(aC (AP ae) (some fJ.2.length) s9.2 127 [oV,mG]).bind fun zL=>(aP 2 r1.1).bind fun v37=>(ai none zL.2 v37).bind fun tm=>(aP 2 r2.1).bind fun uC=>(ai none zL.2 uC).bind fun v40=>(aC (AP ae) (some fJ.2.length) zL.2 127 [tm,v40]).bind fun ux=>(aP 0 r1.1).bind fun P8=>(ai none ux.2 P8).bind fun Fl=>(aP 0 r2.1).bind fun Fm=>(ai none ux.2 Fm).bind fun zX=>(ag .bl .eql Fl zX).bind fun v46=>aw v46 ((aP 0 r1.1).bind fun Fo=>(ai none ux.2 Fo).bind fun Ci=>(aC (AP ae) (some ux.2.length) ux.2 130 [s9.1,zL.1]).bind fun qp=>(aC (AP ae) (some ux.2.length) qp.2 126 [Ci,qp.1,ux.1]).bind fun xA=>(aM (some 3) xA.2 (.ptr (az none r2.2 .resv).1 0) xA.1).bind fun m51=>(ai (some 3) m51 (.ptr (az none r2.2 .resv).1 0)).bind fun P9=>some (P9,m51)) ((aC (AP ae) none ux.2 131 [s9.1,zL.1]).bind fun JC=>(ag .other .lss JC.1 (.int .i64 0)).bind fun v54=>aw v54 ((ai (some 3) JC.2 r2.1).bind fun Qa=>(aM (some 3) JC.2 r1.1 Qa).bind fun m56=>(aC (AP ae) none m56 132 [zL.1,s9.1]).bind fun JD=>(aZ JD.1 0).bind fun v58=>(aZ JD.1 1).bind fun v59=>(aP 0 r1.1).bind fun Qb=>(ai none JD.2 Qb).bind fun v61=>(aC (AP ae) none JD.2 126 [v61,v58,ux.1]).bind fun Y3=>(aM (some 3) Y3.2 (.ptr (az none r2.2 .resv).1 0) Y3.1).bind fun m63=>(ai (some 3) m63 (.ptr (az none r2.2 .resv).1 0)).bind fun v64=>some (v64,m63)) ((aC (AP ae) none JC.2 132 [s9.1,zL.1]).bind fun JE=>(aZ JE.1 0).bind fun v66=>(aZ JE.1 1).bind fun v67=>(aP 0 r1.1).bind fun v68=>(ai none JE.2 v68).bind fun v69=>(aC (AP ae) none JE.2 126 [v69,v66,ux.1]).bind fun Y4=>(aM (some 3) Y4.2 (.ptr (az none r2.2 .resv).1 0) Y4.1).bind fun m71=>(ai (some 3) m71 (.ptr (az none r2.2 .resv).1 0)).bind fun v72=>some (v72,m71))))):=
(bj ae 71 [a0,a1] m (fn:=f71) (c:=aB f71) qkd rfl).trans (by kernel_rfl)
theorem qgo (m:af):AC ae 114 [] m=(aC (AP ae) none (az none m (.obj true [(.bool false),aq,aq])).2 123 [(.int .u64 1)]).bind fun r1=>(fU (.agg [(.bool false),aq,aq]) [(2,none,r1.1)]).bind fun v2=>(aM (some 3) r1.2 (.ptr (az none m .resv).1 0) v2).bind fun m3=>(ai (some 3) m3 (.ptr (az none m .resv).1 0)).bind fun v4=>some (v4,m3):=
(bj ae 114 [] m (fn:=f114) (c:=aB f114) qiL rfl).trans (by kernel_rfl)
theorem T64 (m:af):AC ae 64 [] m=(aC (AP ae) none (az none m (.obj true [(.bool false),aq,aq])).2 123 [(.int .u64 1)]).bind fun r1=>(aC (AP ae) none r1.2 123 [(.int .u64 1)]).bind fun r2=>(fU (.agg [(.bool false),aq,aq]) [(1,none,r1.1),(2,none,r2.1)]).bind fun v3=>(aM (some 3) r2.2 (.ptr (az none m .resv).1 0) v3).bind fun m4=>(ai (some 3) m4 (.ptr (az none m .resv).1 0)).bind fun v5=>some (v5,m4):=
(bj ae 64 [] m (fn:=f64) (c:=aB f64) qj6 rfl).trans (by kernel_rfl)
theorem qgL (a0:AV) (m:af):AC ae 152 [a0] m=(cS none (some 3) m a0).bind fun r1=>(aP 1 r1.1).bind fun v2=>(ai none r1.2 v2).bind fun v3=>(aC (AP ae) none r1.2 181 [v3]).bind fun r4=>(jn .not r4.1).bind fun v5=>aw v5 (some ((.bool false),r4.2)) ((aP 2 r1.1).bind fun v6=>(ai none r4.2 v6).bind fun v7=>(aC (AP ae) none r4.2 181 [v7]).bind fun r8=>(jn .not r8.1).bind fun v9=>aw v9 (some ((.bool false),r8.2)) ((aP 2 r1.1).bind fun v10=>(ai none r8.2 v10).bind fun v11=>(aK false v11).bind fun v12=>(ag .other .eql v12 (.int .i64 0)).bind fun bh=>aw bh (some ((.bool false),r8.2)) ((aP 1 r1.1).bind fun bg=>(ai none r8.2 bg).bind fun bo=>(aK false bo).bind fun bL=>(ag .other .eql bL (.int .i64 0)).bind fun bD=>aw bD ((aP 0 r1.1).bind fun dQ=>(ai none r8.2 dQ).bind fun c8=>aw c8 (some ((.bool false),r8.2)) ((aP 1 r1.1).bind fun v20=>(ai none r8.2 v20).bind fun v21=>(aP 2 r1.1).bind fun v22=>(ai none r8.2 v22).bind fun v23=>(aC (AP ae) none r8.2 183 [v21,v23]).bind fun mE=>(aC (AP ae) none mE.2 182 [mE.1]).bind fun mY=>(aZ mY.1 0).bind fun v26=>(aZ mY.1 1).bind fun jt=>aw jt ((ag .other .eql v26 (.int .u64 1)).bind fun v28=>some (v28,mY.2)) (some ((.bool false),mY.2)))) ((aP 1 r1.1).bind fun jS=>(ai none r8.2 jS).bind fun v30=>(aP 2 r1.1).bind fun v31=>(ai none r8.2 v31).bind fun lW=>(aC (AP ae) none r8.2 183 [v30,lW]).bind fun E6=>(aC (AP ae) none E6.2 182 [E6.1]).bind fun uv=>(aZ uv.1 0).bind fun mG=>(aZ uv.1 1).bind fun tj=>aw tj ((ag .other .eql mG (.int .u64 1)).bind fun v37=>some (v37,uv.2)) (some ((.bool false),uv.2)))))):=
(bj ae 152 [a0] m (fn:=f152) (c:=aB f152) qjf rfl).trans (by kernel_rfl)
theorem qgM (a0 a1:AV) (m:af):AC ae 153 [a0,a1] m=(cS none (some 3) m a0).bind fun r1=>(cS none (some 3) r1.2 a1).bind fun r2=>(ai (some 3) r2.2 r1.1).bind fun v3=>(aC (AP ae) (some r2.2.length) r2.2 129 [v3]).bind fun r4=>(ai (some 3) r4.2 r2.1).bind fun v5=>(aC (AP ae) (some r2.2.length) r4.2 129 [v5]).bind fun r6=>(ag .other .lss r4.1 r6.1).bind fun v7=>aw v7 (some ((.int .i64 (-1)),r6.2)) ((ag .other .gtr r4.1 r6.1).bind fun v8=>aw v8 (some ((.int .i64 1),r6.2)) ((aP 1 r1.1).bind fun v9=>(ai none r6.2 v9).bind fun v10=>(aP 2 r2.1).bind fun v11=>(ai none r6.2 v11).bind fun v12=>(aC (AP ae) (some r6.2.length) r6.2 127 [v10,v12]).bind fun gh=>(aP 1 r2.1).bind fun bg=>(ai none gh.2 bg).bind fun bo=>(aP 2 r1.1).bind fun bL=>(ai none gh.2 bL).bind fun bD=>(aC (AP ae) (some r6.2.length) gh.2 127 [bo,bD]).bind fun gQ=>(aC (AP ae) (some r6.2.length) gQ.2 131 [gh.1,gQ.1]).bind fun pq=>(ag .other .mul r4.1 pq.1).bind fun v20=>some (v20,pq.2))):=
(bj ae 153 [a0,a1] m (fn:=f153) (c:=aB f153) qjg rfl).trans (by kernel_rfl)
theorem T69 (a0 a1:AV) (m:af):AC ae 69 [a0,a1] m=(cS none (some 3) m a0).bind fun r1=>(cS none (some 3) r1.2 a1).bind fun r2=>(aP 0 r1.1).bind fun v3=>(ai none (az none r2.2 (.obj true [(.bool false),aq,aq])).2 v3).bind fun v4=>(aP 0 r2.1).bind fun v5=>(ai none (az none r2.2 (.obj true [(.bool false),aq,aq])).2 v5).bind fun v6=>(ag .bl .neq v4 v6).bind fun v7=>(aP 1 r1.1).bind fun v8=>(ai none (az none r2.2 (.obj true [(.bool false),aq,aq])).2 v8).bind fun v9=>(aP 1 r2.1).bind fun v10=>(ai none (az none r2.2 (.obj true [(.bool false),aq,aq])).2 v10).bind fun v11=>(aC (AP ae) (some (az none r2.2 (.obj true [(.bool false),aq,aq])).2.length) (az none r2.2 (.obj true [(.bool false),aq,aq])).2 127 [v9,v11]).bind fun gF=>(aP 2 r1.1).bind fun bh=>(ai none gF.2 bh).bind fun bg=>(aP 2 r2.1).bind fun bo=>(ai none gF.2 bo).bind fun bL=>(aC (AP ae) (some (az none r2.2 (.obj true [(.bool false),aq,aq])).2.length) gF.2 127 [bg,bL]).bind fun vO=>(aC (AP ae) (some (az none r2.2 (.obj true [(.bool false),aq,aq])).2.length) vO.2 126 [v7,gF.1,vO.1]).bind fun gQ=>(aM (some 3) gQ.2 (.ptr (az none r2.2 .resv).1 0) gQ.1).bind fun m19=>(ai (some 3) m19 (.ptr (az none r2.2 .resv).1 0)).bind fun v20=>some (v20,m19):=
(bj ae 69 [a0,a1] m (fn:=f69) (c:=aB f69) qkb rfl).trans (by kernel_rfl)
theorem qgx (a0:AV) (m:af):AC ae 129 [a0] m=(cS none (some 3) m a0).bind fun r1=>(aP 1 r1.1).bind fun v2=>(ai none r1.2 v2).bind fun v3=>(aC (AP ae) none r1.2 131 [v3,aq]).bind fun r4=>(ag .other .eql r4.1 (.int .i64 0)).bind fun v5=>aw v5 (some ((.int .i64 0),r4.2)) ((aP 2 r1.1).bind fun v6=>(ai none r4.2 v6).bind fun v7=>(aC (AP ae) none r4.2 131 [v7,aq]).bind fun r8=>(ag .other .eql r8.1 (.int .i64 0)).bind fun v9=>aw v9 (some ((.int .i64 0),r8.2)) ((aP 0 r1.1).bind fun v10=>(ai none r8.2 v10).bind fun v11=>aw v11 (some ((.int .i64 (-1)),r8.2)) (some ((.int .i64 1),r8.2)))):=
(bj ae 129 [a0] m (fn:=f129) (c:=aB f129) qiW rfl).trans (by kernel_rfl)
theorem SC (a0 a1 a2:AV) (m:af):AC ae 126 [a0,a1,a2] m=(aC (AP ae) none (az none m (.obj true [(.bool false),aq,aq])).2 167 [a0,a1,a2]).bind fun r1=>(aZ r1.1 0).bind fun v2=>(aZ r1.1 1).bind fun v3=>(aM (some 3) (az none r1.2 (.obj true [(.bool false),aq,aq])).2 (.ptr (az none r1.2 .resv).1 0) v2).bind fun m4=>(ag .other .neq v3 (.int .i64 0)).bind fun v5=>aw v5 ((aC (AP ae) none m4 114 []).bind fun r6=>(aM (some 3) r6.2 (.ptr (az none m .resv).1 0) r6.1).bind fun m7=>(ai (some 3) m7 (.ptr (az none m .resv).1 0)).bind fun v8=>some (v8,m7)) ((ai (some 3) m4 (.ptr (az none r1.2 .resv).1 0)).bind fun v9=>(aM (some 3) m4 (.ptr (az none m .resv).1 0) v9).bind fun m10=>(ai (some 3) m10 (.ptr (az none m .resv).1 0)).bind fun v11=>some (v11,m10)):=
(bj ae 126 [a0,a1,a2] m (fn:=f126) (c:=aB f126) qiT rfl).trans (by kernel_rfl)
theorem SH (a0 a1 a2:AV) (m:af):AC ae 167 [a0,a1,a2] m=(aC (AP ae) none (az none m (.obj true [(.bool false),aq,aq])).2 183 [a1,a2]).bind fun r1=>(aC (AP ae) none r1.2 131 [a2,aq]).bind fun r2=>(ag .other .eql r2.1 (.int .i64 0)).bind fun v3=>aw v3 ((fU (.agg [(.bool false),aq,aq]) []).bind fun v4=>(aM (some 3) r2.2 (.ptr (az none m .resv).1 0) v4).bind fun m5=>(ai (some 3) m5 (.ptr (az none m .resv).1 0)).bind fun v6=>some ((.tup [v6,(.int .i64 31)]),m5)) ((aC (AP ae) none r2.2 187 [a1,r1.1]).bind fun r7=>(aZ r7.1 0).bind fun v8=>(aZ r7.1 1).bind fun v9=>(aZ r7.1 2).bind fun v10=>(aC (AP ae) none r7.2 187 [a2,r1.1]).bind fun jE=>(aZ jE.1 0).bind fun v12=>(aZ jE.1 1).bind fun bh=>(aZ jE.1 2).bind fun bg=>aw a0 ((aK false v8).bind fun bo=>(ag .other .gtr bo (.int .i64 0)).bind fun bL=>(fU (.agg [(.bool false),aq,aq]) [(0,none,bL),(1,none,v8),(2,none,v12)]).bind fun bD=>(aM (some 3) jE.2 (.ptr (az none m .resv).1 0) bD).bind fun m18=>(ai (some 3) m18 (.ptr (az none m .resv).1 0)).bind fun c8=>some ((.tup [c8,(.int .i64 0)]),m18)) ((fU (.agg [(.bool false),aq,aq]) [(0,none,(.bool false)),(1,none,v8),(2,none,v12)]).bind fun v20=>(aM (some 3) jE.2 (.ptr (az none m .resv).1 0) v20).bind fun m21=>(ai (some 3) m21 (.ptr (az none m .resv).1 0)).bind fun v22=>some ((.tup [v22,(.int .i64 0)]),m21))):=
(bj ae 167 [a0,a1,a2] m (fn:=f167) (c:=aB f167) qjp rfl).trans (by kernel_rfl)
theorem qgU (a0:AV) (m:af):AC ae 168 [a0] m=(ag .other .lss a0 (.int .i64 0)).bind fun v1=>aw v1 ((bq .u64 a0).bind fun v2=>(jn .neg v2).bind fun v3=>(aC (AP ae) none m 123 [v3]).bind fun r4=>some (r4.1,r4.2)) ((bq .u64 a0).bind fun v5=>(aC (AP ae) none m 123 [v5]).bind fun r6=>some (r6.1,r6.2)):=
(bj ae 168 [a0] m (fn:=f168) (c:=aB f168) qjq rfl).trans (by kernel_rfl)
theorem qgw (a0 a1:AV) (m:af):AC ae 128 [a0,a1] m=(ag .other .lss a0 (.int .i64 0)).bind fun v1=>(ag .other .lss a1 (.int .i64 0)).bind fun v2=>(ag .bl .neq v1 v2).bind fun v3=>(aC (AP ae) none (az none m (.obj true [(.bool false),aq,aq])).2 168 [a0]).bind fun r4=>(aC (AP ae) none r4.2 168 [a1]).bind fun r5=>(aC (AP ae) none r5.2 167 [v3,r4.1,r5.1]).bind fun r6=>(aZ r6.1 0).bind fun v7=>(aZ r6.1 1).bind fun v8=>(aM (some 3) r6.2 (.ptr (az none m .resv).1 0) v7).bind fun m9=>(ai (some 3) m9 (.ptr (az none m .resv).1 0)).bind fun v10=>some ((.tup [v10,v8]),m9):=
(bj ae 128 [a0,a1] m (fn:=f128) (c:=aB f128) qiV rfl).trans (by kernel_rfl)
end
end Go.Ab
namespace Go.Ab
open Go.Proofs.Tryz
theorem O8:NOk iv:=⟨yB,by simp[iv],by simp[iv]⟩
theorem O9:iv.v=0:=rfl
def zF:NV:=⟨false,.no,aD 1⟩
theorem SU:AP ae 123 [.int .u64 1]=some zF.av:=Mc (n:=1) (by omega)
def og:RV:=⟨false,iv,zF⟩
def jO:RV:=⟨false,zF,zF⟩
theorem wD:Can og 0:=⟨rfl,lF.symm,rfl,fun _=>rfl,by simp[og,zF]⟩
theorem Mz:Can jO 1:=⟨rfl,rfl,rfl,by simp[jO,zF],by simp[jO,zF]⟩
theorem Du:AP ae 114 []=some og.av:=by
 refine cM _ _ (hP og) (kZ _) (m:=[cR og]) ?_;rw[qgo];simp only[aa,aS,dk,dZ,cX,eZ,eY,df,dh,dc,ff,fg,eG,eH,eF,dI,dP,fh,eJ,eK,eI,dp,dz,fk,eM,eN,eL,dT,dW,fq,eQ,eR,eP,eO,ft,fA,eW,eX,eU,eT,fB,fC,dL,dM,dY,eu,eD,eC,ez,ee,dE,dS,ei,aL,aQ,aI,bQ,b8,bY,br,cY,dX,fD,fc,dF,dO,dV,dJ,dw,dr,SU]
 rfl
theorem Mg:AP ae 64 []=some jO.av:=by
 refine cM _ _ (hP jO) (kZ _) (m:=[cR jO]) ?_;rw[T64];simp only[aa,aS,dk,dZ,cX,eZ,eY,df,dh,dc,ff,fg,eG,eH,eF,dI,dP,fh,eJ,eK,eI,dp,dz,fk,eM,eN,eL,dT,dW,fq,eQ,eR,eP,eO,ft,fA,eW,eX,eU,eT,fB,fC,dL,dM,dY,eu,eD,eC,ez,ee,dE,dS,ei,aL,aQ,aI,bQ,b8,bY,br,cY,dX,fD,fc,dF,dO,dV,dJ,dw,dr,SU]
 rfl
theorem A3 (n:Nat):(gW n 0=0)↔n=0:=by unfold gW;constructor<;>intro h<;>(repeat' split at *)<;>omega
theorem S0 {x y:NV} (neg:Bool) (hx:NOk x) (hy:NOk y):(y.v=0/\AP ae 167 [.bool neg,x.av,y.av]=some (.tup [zR.av,.int .i64 31])) \/
  (y.v≠0/\∃ r:RV,AP ae 167 [.bool neg,x.av,y.av]=some (.tup [r.av,.int .i64 0])/\Can r (dK neg x.v y.v)/\r.fr=r):=by
 have e1:=S8 hx.fr hy.fr;have e2:=wu hy.fr O8;have hg:=Vf hx.fr hy.fr;have hgf:(lK x.fr y.fr).fr=lK x.fr y.fr:=qlV _ _;have Ei:(lK x.fr y.fr).v=Nat.gcd x.v y.v:=Vg _ _;have e3:=Md hx.fr hg;have e4:=Md hy.fr hg;have nf:iv.fr=iv:=rfl;have zi:y.fr.v=y.v:=rfl;rw[O9,zi] at e2
 by_cases h0:y.v=0
 ·refine .inl ⟨h0,cM _ _ (A9 zR (jX _ _)) rfl (m:=[cR zR]) ?_⟩;rw[SH];simp only[aa,aS,dk,dZ,cX,eZ,eY,df,dh,dc,ff,fg,eG,eH,eF,dI,dP,fh,eJ,eK,eI,dp,dz,fk,eM,eN,eL,dT,dW,fq,eQ,eR,eP,eO,ft,fA,eW,eX,eU,eT,fB,fC,dL,dM,dY,eu,eD,eC,ez,ee,dE,dS,ei,aL,aQ,aI,bQ,b8,bY,br,cY,dX,fD,fc,dF,dO,dV,dJ,dw,dr,e1,nf,e2,iM,aA];rw[an ((A3 _).2 h0)]
 ·refine .inr ⟨h0,?_⟩
  have tW:Nat.gcd x.v y.v≠0:=by
   have:=Nat.gcd_pos_of_pos_right x.v (oX h0);omega
  have Eg:¬ (lK x.fr y.fr).v=0:=by rw[Ei];exact tW
  unfold Ig at e3 e4;rw[aj Eg] at e3 e4;have hq:(lG x.fr (lK x.fr y.fr)).ds=aD (x.v / Nat.gcd x.v y.v):=by rw[Ic,Ei];rfl
  have hd:(lG y.fr (lK x.fr y.fr)).ds=aD (y.v / Nat.gcd x.v y.v):=by rw[Ic,Ei];rfl
  refine ⟨⟨neg && decide (x.v / Nat.gcd x.v y.v > 0),lG x.fr (lK x.fr y.fr),lG y.fr (lK x.fr y.fr)⟩,?_,⟨(YV h0).symm,?_,?_,(US hx.fr).nil,(US hy.fr).nil⟩,?_⟩
  ·refine (cM _ _ (A9 ⟨neg && decide (x.v / Nat.gcd x.v y.v > 0),lG x.fr (lK x.fr y.fr),lG y.fr (lK x.fr y.fr)⟩ (jX .i64 0)) rfl (m:=[cR ⟨neg && decide (x.v / Nat.gcd x.v y.v > 0),lG x.fr (lK x.fr y.fr),lG y.fr (lK x.fr y.fr)⟩]) ?_).trans (by simp only[RV.fr,DS]);rw[SH];simp only[aa,aS,dk,dZ,cX,eZ,eY,df,dh,dc,ff,fg,eG,eH,eF,dI,dP,fh,eJ,eK,eI,dp,dz,fk,eM,eN,eL,dT,dW,fq,eQ,eR,eP,eO,ft,fA,eW,eX,eU,eT,fB,fC,dL,dM,dY,eu,eD,eC,ez,ee,dE,dS,ei,aL,aQ,aI,bQ,b8,bY,br,cY,dX,fD,fc,dF,dO,dV,dJ,dw,dr,e1,nf,e2,iM,aA];rw[aj (fun h=>h0 ((A3 _).1 h))];simp only[aa,aS,dk,dZ,cX,eZ,eY,df,dh,dc,ff,fg,eG,eH,eF,dI,dP,fh,eJ,eK,eI,dp,dz,fk,eM,eN,eL,dT,dW,fq,eQ,eR,eP,eO,ft,fA,eW,eX,eU,eT,fB,fC,dL,dM,dY,eu,eD,eC,ez,ee,dE,dS,ei,aL,aQ,aI,bQ,b8,bY,br,cY,dX,fD,fc,dF,dO,dV,dJ,dw,dr,hgf,e3,e4,iJ,vJ,hq]
   have hlen:decide ((aD (x.v / Nat.gcd x.v y.v)).length > 0)=decide (x.v / Nat.gcd x.v y.v > 0):=jL.2 (by
    constructor
    ·intro h;apply oX;intro e;rw[e,lF] at h;simp at h
    ·intro h;have:(aD (x.v / Nat.gcd x.v y.v)).length≠0:=fun e=>by have:=nq.1 e;omega
     omega)
   cases neg with
   | false=>rfl
   | true=>
    rw[oQ,hlen];simp only[aa,aS,dk,dZ,cX,eZ,eY,df,dh,dc,ff,fg,eG,eH,eF,dI,dP,fh,eJ,eK,eI,dp,dz,fk,eM,eN,eL,dT,dW,fq,eQ,eR,eP,eO,ft,fA,eW,eX,eU,eT,fB,fC,dL,dM,dY,eu,eD,eC,ez,ee,dE,dS,ei,aL,aQ,aI,bQ,b8,bY,br,cY,dX,fD,fc,dF,dO,dV,dJ,dw,dr,iN]
  ·rw[Pv h0];exact hq
  ·rw[Pw h0];exact hd
  ·simp only[RV.fr,DS]
theorem J6:zR.fr=zR:=rfl
theorem Af:og.fr=og:=rfl
theorem Yl:jO.fr=jO:=rfl
theorem HK {x y:NV} (neg:Bool) (hx:NOk x) (hy:NOk y):∃ r:RV,AP ae 126 [.bool neg,x.av,y.av]=some r.av/\Can r (dK neg x.v y.v)/\r.fr=r:=by
 rcases S0 neg hx.fr hy.fr with ⟨h0,h1⟩ | ⟨h0,r,h1,h2,h3⟩
 ·refine ⟨og,cM _ _ (hP og) (kZ _) (m:=[cR og,cR zR]) ?_,?_,Af⟩
  ·rw[SC];simp only[aa,aS,dk,dZ,cX,eZ,eY,df,dh,dc,ff,fg,eG,eH,eF,dI,dP,fh,eJ,eK,eI,dp,dz,fk,eM,eN,eL,dT,dW,fq,eQ,eR,eP,eO,ft,fA,eW,eX,eU,eT,fB,fC,dL,dM,dY,eu,eD,eC,ez,ee,dE,dS,ei,aL,aQ,aI,bQ,b8,bY,br,cY,dX,fD,fc,dF,dO,dV,dJ,dw,dr,h1,gZ,aA];rw[an (by decide)];simp only[aa,aS,dk,dZ,cX,eZ,eY,df,dh,dc,ff,fg,eG,eH,eF,dI,dP,fh,eJ,eK,eI,dp,dz,fk,eM,eN,eL,dT,dW,fq,eQ,eR,eP,eO,ft,fA,eW,eX,eU,eT,fB,fC,dL,dM,dY,eu,eD,eC,ez,ee,dE,dS,ei,aL,aQ,aI,bQ,b8,bY,br,cY,dX,fD,fc,dF,dO,dV,dJ,dw,dr,Du]
  ·have:y.v=0:=h0;rw[this,zK];exact wD
 ·refine ⟨r,(cM _ _ (hP r) (kZ _) (m:=[cR r,cR r]) ?_).trans (by rw[h3]),h2,h3⟩;rw[SC];simp only[aa,aS,dk,dZ,cX,eZ,eY,df,dh,dc,ff,fg,eG,eH,eF,dI,dP,fh,eJ,eK,eI,dp,dz,fk,eM,eN,eL,dT,dW,fq,eQ,eR,eP,eO,ft,fA,eW,eX,eU,eT,fB,fC,dL,dM,dY,eu,eD,eC,ez,ee,dE,dS,ei,aL,aQ,aI,bQ,b8,bY,br,cY,dX,fD,fc,dF,dO,dV,dJ,dw,dr,h1,gZ,aA];rw[aj (by decide)]
def jl (r:RV):Int:=if r.num.v=0\/r.den.v=0 then 0 else if r.neg then -1 else 1
theorem HL {r:RV} {k:Nat} (h:ROk k r):AP ae 129 [r.av]=some (.int .i64 (jl r)):=by
 have nf:iv.fr=iv:=rfl;have e1:=wu h.num.fr O8;have e2:=wu h.den.fr O8;have v1:r.num.fr.v=r.num.v:=rfl;have v2:r.den.fr.v=r.den.v:=rfl;rw[O9,v1] at e1;rw[O9,v2] at e2;refine cM _ _ (fW _ _) rfl (m:=[cR r]) ?_;rw[qgx];simp only[aa,aS,dk,dZ,cX,eZ,eY,df,dh,dc,ff,fg,eG,eH,eF,dI,dP,fh,eJ,eK,eI,dp,dz,fk,eM,eN,eL,dT,dW,fq,eQ,eR,eP,eO,ft,fA,eW,eX,eU,eT,fB,fC,dL,dM,dY,eu,eD,eC,ez,ee,dE,dS,ei,aL,aQ,aI,bQ,b8,bY,br,cY,dX,fD,fc,dF,dO,dV,dJ,dw,dr,nf,e1,iM,aA];unfold jl
 by_cases h1:r.num.v=0
 ·rw[an ((A3 _).2 h1),an (.inl h1)]
 ·rw[aj (fun h=>h1 ((A3 _).1 h))];simp only[aa,aS,dk,dZ,cX,eZ,eY,df,dh,dc,ff,fg,eG,eH,eF,dI,dP,fh,eJ,eK,eI,dp,dz,fk,eM,eN,eL,dT,dW,fq,eQ,eR,eP,eO,ft,fA,eW,eX,eU,eT,fB,fC,dL,dM,dY,eu,eD,eC,ez,ee,dE,dS,ei,aL,aQ,aI,bQ,b8,bY,br,cY,dX,fD,fc,dF,dO,dV,dJ,dw,dr,e2,iM,aA]
  by_cases h2:r.den.v=0
  ·rw[an ((A3 _).2 h2),an (.inr h2)]
  ·rw[aj (fun h=>h2 ((A3 _).1 h)),aj (fun h=>h.elim h1 h2)];cases hn:r.neg<;>rfl
end Go.Ab
namespace Go.Ab
noncomputable section
open Go.Proofs.Tryz
theorem T21 (a0 a1:AV) (m:af):AC ae 21 [a0,a1] m=(cS none (some 3) m a0).bind fun r1=>(cS none (some 3) r1.2 a1).bind fun r2=>(ai (some 3) r2.2 r1.1).bind fun v3=>(ai (some 3) r2.2 r2.1).bind fun v4=>(aC (AP ae) none r2.2 73 [v3,v4]).bind fun r5=>(ag .other .eql r5.1 (.int .i64 0)).bind fun v6=>some (v6,r5.2):=
(bj ae 21 [a0,a1] m (fn:=f21) (c:=aB f21) qjJ rfl).trans (by kernel_rfl)
theorem T73 (a0 a1:AV) (m:af):AC ae 73 [a0,a1] m=(cS none (some 3) m a0).bind fun r1=>(cS none (some 3) r1.2 a1).bind fun r2=>(ai (some 3) r2.2 r1.1).bind fun v3=>(ai (some 3) r2.2 r2.1).bind fun v4=>(aC (AP ae) none r2.2 134 [v3,v4]).bind fun r5=>(aC (AP ae) none r5.2 57 [r5.1]).bind fun r6=>some (r6.1,r6.2):=
(bj ae 73 [a0,a1] m (fn:=f73) (c:=aB f73) qkf rfl).trans (by kernel_rfl)
theorem T23 (m:af):AC ae 23 [] m=(aC (AP ae) none (az none m (.obj true [(.bool false),aq,aq])).2 72 [(.int .u64 1)]).bind fun r1=>(aC (AP ae) none r1.2 72 [(.int .u64 1)]).bind fun r2=>(fU (.agg [(.bool false),aq,aq]) [(1,none,r1.1),(2,none,r2.1)]).bind fun v3=>(aM (some 3) r2.2 (.ptr (az none m .resv).1 0) v3).bind fun m4=>(ai (some 3) m4 (.ptr (az none m .resv).1 0)).bind fun v5=>some (v5,m4):=
(bj ae 23 [] m (fn:=f23) (c:=aB f23) qjL rfl).trans (by kernel_rfl)
theorem T20 (m:af):AC ae 20 [] m=(aC (AP ae) none (az none m (.obj true [(.bool false),aq,aq])).2 72 [(.int .u64 1)]).bind fun r1=>(fU (.agg [(.bool false),aq,aq]) [(2,none,r1.1)]).bind fun v2=>(aM (some 3) r1.2 (.ptr (az none m .resv).1 0) v2).bind fun m3=>(ai (some 3) m3 (.ptr (az none m .resv).1 0)).bind fun v4=>some (v4,m3):=
(bj ae 20 [] m (fn:=f20) (c:=aB f20) qjE rfl).trans (by kernel_rfl)
theorem L7 (a0 a1:AV) (m:af):AC ae 22 [a0,a1] m=(cS none (some 3) m a0).bind fun r1=>(cS none (some 3) r1.2 a1).bind fun r2=>(ai (some 3) (az none r2.2 (.obj true [(.bool false),aq,aq])).2 r1.1).bind fun v3=>(aC (AP ae) (some (az none r2.2 (.obj true [(.bool false),aq,aq])).2.length) (az none r2.2 (.obj true [(.bool false),aq,aq])).2 74 [v3]).bind fun r4=>(ai (some 3) r4.2 r2.1).bind fun v5=>(aC (AP ae) (some (az none r2.2 (.obj true [(.bool false),aq,aq])).2.length) r4.2 74 [v5]).bind fun r6=>(aM (some 3) r6.2 r1.1 r4.1).bind fun m7=>(aM (some 3) m7 r2.1 r6.1).bind fun m8=>(aP 1 r1.1).bind fun v9=>(ai none m8 v9).bind fun v10=>(aP 2 r2.1).bind fun v11=>(ai none m8 v11).bind fun v12=>(aC (AP ae) (some m8.length) m8 75 [v10,v12]).bind fun gh=>(aP 1 r2.1).bind fun bg=>(ai none gh.2 bg).bind fun bo=>(aP 2 r1.1).bind fun bL=>(ai none gh.2 bL).bind fun bD=>(aC (AP ae) (some m8.length) gh.2 75 [bo,bD]).bind fun gQ=>(aP 2 r1.1).bind fun c8=>(ai none gQ.2 c8).bind fun v20=>(aP 2 r2.1).bind fun v21=>(ai none gQ.2 v21).bind fun v22=>(aC (AP ae) (some m8.length) gQ.2 75 [v20,v22]).bind fun lh=>(aP 0 r1.1).bind fun v24=>(ai none lh.2 v24).bind fun v25=>(aC (AP ae) (some lh.2.length) lh.2 76 [gh.1,gQ.1]).bind fun qT=>(aP 0 r1.1).bind fun jt=>(ai none qT.2 jt).bind fun v28=>(aP 0 r2.1).bind fun jS=>(ai none qT.2 jS).bind fun v30=>(ag .bl .neq v28 v30).bind fun v31=>aw v31 ((aC (AP ae) none qT.2 77 [gh.1,gQ.1]).bind fun Jz=>(ag .other .geq Jz.1 (.int .i64 0)).bind fun oV=>aw oV ((aC (AP ae) none Jz.2 78 [gh.1,gQ.1]).bind fun uv=>(aZ uv.1 0).bind fun mG=>(aZ uv.1 1).bind fun tj=>(aC (AP ae) none uv.2 79 [v25,mG,lh.1]).bind fun uw=>(aZ uw.1 0).bind fun tm=>(aZ uw.1 1).bind fun uC=>(aM (some 3) (az none uw.2 (.obj true [(.bool false),aq,aq])).2 (.ptr (az none uw.2 .resv).1 0) tm).bind fun m40=>(ai (some 3) m40 (.ptr (az none uw.2 .resv).1 0)).bind fun zW=>(aM (some 3) m40 (.ptr (az none r2.2 .resv).1 0) zW).bind fun m42=>(ai (some 3) m42 (.ptr (az none r2.2 .resv).1 0)).bind fun Fl=>some (Fl,m42)) ((aP 0 r2.1).bind fun Fm=>(ai none Jz.2 Fm).bind fun zX=>(aC (AP ae) none Jz.2 78 [gQ.1,gh.1]).bind fun Pz=>(aZ Pz.1 0).bind fun Fo=>(aZ Pz.1 1).bind fun Ci=>(aC (AP ae) none Pz.2 79 [zX,Fo,lh.1]).bind fun qp=>(aZ qp.1 0).bind fun v50=>(aZ qp.1 1).bind fun v51=>(aM (some 3) (az none qp.2 (.obj true [(.bool false),aq,aq])).2 (.ptr (az none qp.2 .resv).1 0) v50).bind fun m52=>(ai (some 3) m52 (.ptr (az none qp.2 .resv).1 0)).bind fun v53=>(aM (some 3) m52 (.ptr (az none r2.2 .resv).1 0) v53).bind fun m54=>(ai (some 3) m54 (.ptr (az none r2.2 .resv).1 0)).bind fun Qa=>some (Qa,m54))) ((aC (AP ae) none qT.2 79 [v25,qT.1,lh.1]).bind fun E8=>(aZ E8.1 0).bind fun v57=>(aZ E8.1 1).bind fun v58=>(aM (some 3) (az none E8.2 (.obj true [(.bool false),aq,aq])).2 (.ptr (az none E8.2 .resv).1 0) v57).bind fun m59=>(ai (some 3) m59 (.ptr (az none E8.2 .resv).1 0)).bind fun Qb=>(aM (some 3) m59 (.ptr (az none r2.2 .resv).1 0) Qb).bind fun m61=>(ai (some 3) m61 (.ptr (az none r2.2 .resv).1 0)).bind fun v62=>some (v62,m61)):=
(bj ae 22 [a0,a1] m (fn:=f22) (c:=aB f22) qjK rfl).trans (by kernel_rfl)
theorem qgp (a0 a1:AV) (m:af):AC ae 116 [a0,a1] m=(aC (AP ae) none (az none m (.obj true [(.bool false),aq,aq])).2 154 [a0]).bind fun r1=>(aZ r1.1 0).bind fun v2=>(aZ r1.1 1).bind fun v3=>(aC (AP ae) none r1.2 154 [a1]).bind fun r4=>(aZ r4.1 0).bind fun v5=>(aZ r4.1 1).bind fun v6=>(ag .bl .neq v3 v6).bind fun v7=>(aC (AP ae) none r4.2 79 [v7,v2,v5]).bind fun r8=>(aZ r8.1 0).bind fun v9=>(aZ r8.1 1).bind fun v10=>(aM (some 3) r8.2 (.ptr (az none m .resv).1 0) v9).bind fun m11=>(ai (some 3) m11 (.ptr (az none m .resv).1 0)).bind fun v12=>some ((.tup [v12,v10]),m11):=
(bj ae 116 [a0,a1] m (fn:=f116) (c:=aB f116) qiM rfl).trans (by kernel_rfl)
theorem qgq (a0 a1:AV) (m:af):AC ae 117 [a0,a1] m=(cS none (some 3) m a0).bind fun r1=>(cS none (some 3) r1.2 a1).bind fun r2=>(ai (some 3) (az none r2.2 (.obj true [(.bool false),aq,aq])).2 r1.1).bind fun v3=>(aC (AP ae) (some (az none r2.2 (.obj true [(.bool false),aq,aq])).2.length) (az none r2.2 (.obj true [(.bool false),aq,aq])).2 74 [v3]).bind fun r4=>(ai (some 3) r4.2 r2.1).bind fun v5=>(aC (AP ae) (some (az none r2.2 (.obj true [(.bool false),aq,aq])).2.length) r4.2 74 [v5]).bind fun r6=>(aM (some 3) r6.2 r1.1 r4.1).bind fun m7=>(aM (some 3) m7 r2.1 r6.1).bind fun m8=>(aP 0 r1.1).bind fun v9=>(ai none (cQ m8 1) v9).bind fun v10=>(aP 0 r2.1).bind fun v11=>(ai none (cQ m8 1) v11).bind fun v12=>(ag .bl .neq v10 v12).bind fun bh=>(aP 1 r1.1).bind fun bg=>(ai none (cQ m8 1) bg).bind fun bo=>(aP 1 r2.1).bind fun bL=>(ai none (cQ m8 1) bL).bind fun bD=>(aC (AP ae) (some m8.length) (cQ m8 1) 75 [bo,bD]).bind fun gQ=>(aP 2 r1.1).bind fun c8=>(ai none gQ.2 c8).bind fun v20=>(aP 2 r2.1).bind fun v21=>(ai none gQ.2 v21).bind fun v22=>(aC (AP ae) (some m8.length) gQ.2 75 [v20,v22]).bind fun lh=>(aC (AP ae) (some m8.length) lh.2 79 [bh,gQ.1,lh.1]).bind fun mE=>(aZ mE.1 0).bind fun v25=>(aZ mE.1 1).bind fun v26=>(aM (some 3) (az (some m8.length) mE.2 (.obj true [(.bool false),aq,aq])).2 (.ptr (az (some m8.length) mE.2 .resv).1 0) v25).bind fun m27=>(ai (some 3) m27 (.ptr (az (some m8.length) mE.2 .resv).1 0)).bind fun v28=>(aM (some 3) m27 (.ptr (az none r2.2 .resv).1 0) v28).bind fun m29=>(ai (some 3) m29 (.ptr (az none r2.2 .resv).1 0)).bind fun v30=>some (v30,m29):=
(bj ae 117 [a0,a1] m (fn:=f117) (c:=aB f117) qiN rfl).trans (by kernel_rfl)
theorem T57 (a0:AV) (m:af):AC ae 57 [a0] m=(cS none (some 3) m a0).bind fun r1=>(ai (some 3) r1.2 r1.1).bind fun v2=>(aC (AP ae) none r1.2 74 [v2]).bind fun r3=>(aM (some 3) r3.2 r1.1 r3.1).bind fun m4=>(aP 1 r1.1).bind fun v5=>(ai none m4 v5).bind fun v6=>(aK false v6).bind fun v7=>(ag .other .eql v7 (.int .i64 0)).bind fun v8=>aw v8 (some ((.int .i64 0),m4)) ((aP 0 r1.1).bind fun v9=>(ai none m4 v9).bind fun v10=>aw v10 (some ((.int .i64 (-1)),m4)) (some ((.int .i64 1),m4))):=
(bj ae 57 [a0] m (fn:=f57) (c:=aB f57) qj3 rfl).trans (by kernel_rfl)
theorem qgD (a0 a1:AV) (m:af):AC ae 134 [a0,a1] m=(cS none (some 3) m a0).bind fun r1=>(cS none (some 3) r1.2 a1).bind fun r2=>(ai (some 3) (az none r2.2 (.obj true [(.bool false),aq,aq])).2 r1.1).bind fun v3=>(ai (some 3) (az none r2.2 (.obj true [(.bool false),aq,aq])).2 r2.1).bind fun v4=>(aC (AP ae) (some (az none r2.2 (.obj true [(.bool false),aq,aq])).2.length) (az none r2.2 (.obj true [(.bool false),aq,aq])).2 169 [v4]).bind fun r5=>(aC (AP ae) (some (az none r2.2 (.obj true [(.bool false),aq,aq])).2.length) r5.2 22 [v3,r5.1]).bind fun r6=>(aM (some 3) r6.2 (.ptr (az none r2.2 .resv).1 0) r6.1).bind fun m7=>(ai (some 3) m7 (.ptr (az none r2.2 .resv).1 0)).bind fun v8=>some (v8,m7):=
(bj ae 134 [a0,a1] m (fn:=f134) (c:=aB f134) qi1 rfl).trans (by kernel_rfl)
theorem SM (a0:AV) (m:af):AC ae 74 [a0] m=(cS none (some 3) m a0).bind fun r1=>(aP 0 r1.1).bind fun v2=>(ai none (az none r1.2 (.obj true [(.bool false),aq,aq])).2 v2).bind fun v3=>(aP 1 r1.1).bind fun v4=>(ai none (az none r1.2 (.obj true [(.bool false),aq,aq])).2 v4).bind fun v5=>(aP 2 r1.1).bind fun v6=>(ai none (az none r1.2 (.obj true [(.bool false),aq,aq])).2 v6).bind fun v7=>(aC (AP ae) none (az none r1.2 (.obj true [(.bool false),aq,aq])).2 79 [v3,v5,v7]).bind fun r8=>(aZ r8.1 0).bind fun v9=>(aZ r8.1 1).bind fun v10=>(aM (some 3) (az none r8.2 (.obj true [(.bool false),aq,aq])).2 (.ptr (az none r8.2 .resv).1 0) v9).bind fun m11=>(ag .other .neq v10 (.int .i64 0)).bind fun v12=>aw v12 ((aC (AP ae) none m11 20 []).bind fun gh=>(aM (some 3) gh.2 (.ptr (az none r1.2 .resv).1 0) gh.1).bind fun m14=>(ai (some 3) m14 (.ptr (az none r1.2 .resv).1 0)).bind fun bo=>some (bo,m14)) ((ai (some 3) m11 (.ptr (az none r8.2 .resv).1 0)).bind fun bL=>(aM (some 3) m11 (.ptr (az none r1.2 .resv).1 0) bL).bind fun m17=>(ai (some 3) m17 (.ptr (az none r1.2 .resv).1 0)).bind fun dQ=>some (dQ,m17)):=
(bj ae 74 [a0] m (fn:=f74) (c:=aB f74) qkg rfl).trans (by kernel_rfl)
theorem SO (a0 a1 a2:AV) (m:af):AC ae 79 [a0,a1,a2] m=(aC (AP ae) none (az none m (.obj true [(.bool false),aq,aq])).2 136 [a2]).bind fun r1=>(ag .other .eql r1.1 (.int .i64 0)).bind fun v2=>aw v2 ((fU (.agg [(.bool false),aq,aq]) []).bind fun v3=>(aM (some 3) r1.2 (.ptr (az none m .resv).1 0) v3).bind fun m4=>(ai (some 3) m4 (.ptr (az none m .resv).1 0)).bind fun v5=>some ((.tup [v5,(.int .i64 31)]),m4)) ((aC (AP ae) none r1.2 119 [a1,a2]).bind fun r6=>(aC (AP ae) none r6.2 137 [a1,r6.1]).bind fun r7=>(aZ r7.1 0).bind fun v8=>(aZ r7.1 1).bind fun v9=>(aZ r7.1 2).bind fun v10=>(aC (AP ae) none r7.2 137 [a2,r6.1]).bind fun jE=>(aZ jE.1 0).bind fun v12=>(aZ jE.1 1).bind fun bh=>(aZ jE.1 2).bind fun bg=>aw a0 ((aK false v8).bind fun bo=>(ag .other .gtr bo (.int .i64 0)).bind fun bL=>(fU (.agg [(.bool false),aq,aq]) [(0,none,bL),(1,none,v8),(2,none,v12)]).bind fun bD=>(aM (some 3) jE.2 (.ptr (az none m .resv).1 0) bD).bind fun m18=>(ai (some 3) m18 (.ptr (az none m .resv).1 0)).bind fun c8=>some ((.tup [c8,(.int .i64 0)]),m18)) ((fU (.agg [(.bool false),aq,aq]) [(0,none,(.bool false)),(1,none,v8),(2,none,v12)]).bind fun v20=>(aM (some 3) jE.2 (.ptr (az none m .resv).1 0) v20).bind fun m21=>(ai (some 3) m21 (.ptr (az none m .resv).1 0)).bind fun v22=>some ((.tup [v22,(.int .i64 0)]),m21))):=
(bj ae 79 [a0,a1,a2] m (fn:=f79) (c:=aB f79) qkl rfl).trans (by kernel_rfl)
theorem qgN (a0:AV) (m:af):AC ae 154 [a0] m=(ag .other .lss a0 (.int .i64 0)).bind fun v1=>aw v1 ((ag .other .add a0 (.int .i64 1)).bind fun v2=>(jn .neg v2).bind fun v3=>(bq .u64 v3).bind fun v4=>(ag .other .add v4 (.int .u64 1)).bind fun v5=>(aC (AP ae) none m 72 [v5]).bind fun r6=>some ((.tup [r6.1,(.bool true)]),r6.2)) ((bq .u64 a0).bind fun v7=>(aC (AP ae) none m 72 [v7]).bind fun r8=>some ((.tup [r8.1,(.bool false)]),r8.2)):=
(bj ae 154 [a0] m (fn:=f154) (c:=aB f154) qjh rfl).trans (by kernel_rfl)
theorem SI (a0:AV) (m:af):AC ae 169 [a0] m=(cS none (some 3) m a0).bind fun r1=>(ai (some 3) (az none r1.2 (.obj true [(.bool false),aq,aq])).2 r1.1).bind fun v2=>(aC (AP ae) none (az none r1.2 (.obj true [(.bool false),aq,aq])).2 74 [v2]).bind fun r3=>(aM (some 3) r3.2 r1.1 r3.1).bind fun m4=>(aP 0 r1.1).bind fun v5=>(ai none m4 v5).bind fun v6=>(jn .not v6).bind fun v7=>aw v7 ((aP 1 r1.1).bind fun v8=>(ai none m4 v8).bind fun v9=>(aK false v9).bind fun v10=>(ag .other .gtr v10 (.int .i64 0)).bind fun v11=>(aP 0 r1.1).bind fun v12=>(aM none m4 v12 v11).bind fun m13=>(ai (some 3) m13 r1.1).bind fun bg=>(aM (some 3) m13 (.ptr (az none r1.2 .resv).1 0) bg).bind fun m15=>(ai (some 3) m15 (.ptr (az none r1.2 .resv).1 0)).bind fun bL=>some (bL,m15)) ((aP 0 r1.1).bind fun bD=>(aM none m4 bD (.bool false)).bind fun m18=>(ai (some 3) m18 r1.1).bind fun c8=>(aM (some 3) m18 (.ptr (az none r1.2 .resv).1 0) c8).bind fun m20=>(ai (some 3) m20 (.ptr (az none r1.2 .resv).1 0)).bind fun v21=>some (v21,m20)):=
(bj ae 169 [a0] m (fn:=f169) (c:=aB f169) qjr rfl).trans (by kernel_rfl)
end
end Go.Ab
namespace Go.Ab
open Go.Proofs.Tryz
theorem Up {x:NV} (h:su x.ds=true):decide (x.ds.length=0)=decide (x.v=0):=by
 have:x.ds=aD x.v:=xp h;rw[this];exact jL.2 nq
theorem qhm {r:RV} {k:Nat} (h:ROk k r):AP ae 152 [r.av]=some (.bool (nZ r)):=by
 have e1:=S7 h.num.fr;have e2:=S7 h.den.fr;have e3:=S8 h.num.fr h.den.fr;have hg:=Vf h.num.fr h.den.fr;have e4:=qhq hg.fr;have v4:(lK r.num.fr r.den.fr).fr.v=Nat.gcd r.num.v r.den.v:=Vg _ _;rw[v4] at e4;have d1:r.num.fr.ds=r.num.ds:=rfl;have d2:r.den.fr.ds=r.den.ds:=rfl;rw[d1] at e1;rw[d2] at e2;refine cM _ _ (qG _) rfl (m:=[cR r]) ?_;have one:∀ n:Nat,ag .other .eql (.int .u64 n) (.int .u64 1)=some (.bool (decide (n=1))):=fun n=>vI
 have tail:∀ m:af,((some (te (Nat.gcd r.num.v r.den.v),m)).bind fun mY=>(aZ mY.1 0).bind fun v26=>(aZ mY.1 1).bind fun jt=>
   aw jt ((ag .other .eql v26 (.int .u64 1)).bind fun v28=>some (v28,mY.2)) (some ((.bool false),mY.2)))=some (.bool (decide (Nat.gcd r.num.v r.den.v=1)),m):=by
  intro m;unfold te
  split
  ·simp only[Nat.reduceAdd,aa,aS,dk,dZ,cX,eZ,eY,df,dh,dc,ff,fg,eG,eH,eF,dI,dP,fh,eJ,eK,eI,dp,dz,fk,eM,eN,eL,dT,dW,fq,eQ,eR,eP,eO,ft,fA,eW,eX,eU,eT,fB,fC,dL,dM,dY,eu,eD,eC,ez,ee,dE,dS,ei,aL,aQ,aI,bQ,b8,bY,br,cY,dX,fD,fc,dF,dO,dV,dJ,dw,dr,oQ,one]
  ·rename_i hb;simp only[Nat.reduceAdd,aa,aS,dk,dZ,cX,eZ,eY,df,dh,dc,ff,fg,eG,eH,eF,dI,dP,fh,eJ,eK,eI,dp,dz,fk,eM,eN,eL,dT,dW,fq,eQ,eR,eP,eO,ft,fA,eW,eX,eU,eT,fB,fC,dL,dM,dY,eu,eD,eC,ez,ee,dE,dS,ei,aL,aQ,aI,bQ,b8,bY,br,cY,dX,fD,fc,dF,dO,dV,dJ,dw,dr,oP];rw[cT (by omega:¬ Nat.gcd r.num.v r.den.v=1)]
 rw[qgL];simp only[Nat.reduceAdd,aa,aS,dk,dZ,cX,eZ,eY,df,dh,dc,ff,fg,eG,eH,eF,dI,dP,fh,eJ,eK,eI,dp,dz,fk,eM,eN,eL,dT,dW,fq,eQ,eR,eP,eO,ft,fA,eW,eX,eU,eT,fB,fC,dL,dM,dY,eu,eD,eC,ez,ee,dE,dS,ei,aL,aQ,aI,bQ,b8,bY,br,cY,dX,fD,fc,dF,dO,dV,dJ,dw,dr,e1];unfold nZ
 cases h1:su r.num.ds with
 | false=>rfl
 | true=>
  simp only[Nat.reduceAdd,aa,aS,dk,dZ,cX,eZ,eY,df,dh,dc,ff,fg,eG,eH,eF,dI,dP,fh,eJ,eK,eI,dp,dz,fk,eM,eN,eL,dT,dW,fq,eQ,eR,eP,eO,ft,fA,eW,eX,eU,eT,fB,fC,dL,dM,dY,eu,eD,eC,ez,ee,dE,dS,ei,aL,aQ,aI,bQ,b8,bY,br,cY,dX,fD,fc,dF,dO,dV,dJ,dw,dr,jU,oP,e2,iN]
  cases h2:su r.den.ds with
  | false=>rfl
  | true=>
   simp only[Nat.reduceAdd,aa,aS,dk,dZ,cX,eZ,eY,df,dh,dc,ff,fg,eG,eH,eF,dI,dP,fh,eJ,eK,eI,dp,dz,fk,eM,eN,eL,dT,dW,fq,eQ,eR,eP,eO,ft,fA,eW,eX,eU,eT,fB,fC,dL,dM,dY,eu,eD,eC,ez,ee,dE,dS,ei,aL,aQ,aI,bQ,b8,bY,br,cY,dX,fD,fc,dF,dO,dV,dJ,dw,dr,jU,oP,iJ,nT,iN,Up h2];rw[aA]
   by_cases h3:r.den.v=0
   ·rw[an h3];simp[h3]
   ·rw[aj h3];simp only[Nat.reduceAdd,aa,aS,dk,dZ,cX,eZ,eY,df,dh,dc,ff,fg,eG,eH,eF,dI,dP,fh,eJ,eK,eI,dp,dz,fk,eM,eN,eL,dT,dW,fq,eQ,eR,eP,eO,ft,fA,eW,eX,eU,eT,fB,fC,dL,dM,dY,eu,eD,eC,ez,ee,dE,dS,ei,aL,aQ,aI,bQ,b8,bY,br,cY,dX,fD,fc,dF,dO,dV,dJ,dw,dr,iJ,nT,Up h1];rw[aA]
    by_cases h4:r.num.v=0
    ·rw[an h4]
     cases hn:r.neg with
     | true=>rw[oQ];simp[h4]
     | false=>
      rw[oP];simp only[Nat.reduceAdd,aa,aS,dk,dZ,cX,eZ,eY,df,dh,dc,ff,fg,eG,eH,eF,dI,dP,fh,eJ,eK,eI,dp,dz,fk,eM,eN,eL,dT,dW,fq,eQ,eR,eP,eO,ft,fA,eW,eX,eU,eT,fB,fC,dL,dM,dY,eu,eD,eC,ez,ee,dE,dS,ei,aL,aQ,aI,bQ,b8,bY,br,cY,dX,fD,fc,dF,dO,dV,dJ,dw,dr,e3,e4];refine (tail _).trans ?_;simp[h3]
    ·rw[aj h4];simp only[Nat.reduceAdd,aa,aS,dk,dZ,cX,eZ,eY,df,dh,dc,ff,fg,eG,eH,eF,dI,dP,fh,eJ,eK,eI,dp,dz,fk,eM,eN,eL,dT,dW,fq,eQ,eR,eP,eO,ft,fA,eW,eX,eU,eT,fB,fC,dL,dM,dY,eu,eD,eC,ez,ee,dE,dS,ei,aL,aQ,aI,bQ,b8,bY,br,cY,dX,fD,fc,dF,dO,dV,dJ,dw,dr,e3,e4];refine (tail _).trans ?_;simp[h3,h4]
theorem Te:AP ae 72 [.int .u64 1]=some (bK 1).av:=Dv (n:=1) (by omega)
def jG:RV:=⟨false,iv,bK 1⟩
def qR:RV:=⟨false,bK 1,bK 1⟩
theorem Fa (n:Nat):(bK n).z=true->(bK n).ds=[]:=by
 intro h;unfold bK qU at h ⊢
 split at h
 ·split<;>first | rfl | (rename_i h1 h2;exact absurd h1 h2)
 ·cases h
theorem My:Can jG 0:=⟨rfl,lF.symm,ki 1,fun _=>rfl,Fa 1⟩
theorem yt:Can qR 1:=⟨rfl,ki 1,ki 1,Fa 1,Fa 1⟩
theorem Ae:jG.fr=jG:=by simp only[jG,RV.fr,jQ];rfl
theorem E0:qR.fr=qR:=by simp only[qR,RV.fr,jQ]
theorem Me:AP ae 20 []=some jG.av:=by
 refine (cM _ _ (hP jG) (kZ _) (m:=[cR jG]) ?_).trans (by rw[Ae]);rw[T20];simp only[Nat.reduceAdd,aa,aS,dk,dZ,cX,eZ,eY,df,dh,dc,ff,fg,eG,eH,eF,dI,dP,fh,eJ,eK,eI,dp,dz,fk,eM,eN,eL,dT,dW,fq,eQ,eR,eP,eO,ft,fA,eW,eX,eU,eT,fB,fC,dL,dM,dY,eu,eD,eC,ez,ee,dE,dS,ei,aL,aQ,aI,bQ,b8,bY,br,cY,dX,fD,fc,dF,dO,dV,dJ,dw,dr,Te]
 rfl
theorem Mf:AP ae 23 []=some qR.av:=by
 refine (cM _ _ (hP qR) (kZ _) (m:=[cR qR]) ?_).trans (by rw[E0]);rw[T23];simp only[Nat.reduceAdd,aa,aS,dk,dZ,cX,eZ,eY,df,dh,dc,ff,fg,eG,eH,eF,dI,dP,fh,eJ,eK,eI,dp,dz,fk,eM,eN,eL,dT,dW,fq,eQ,eR,eP,eO,ft,fA,eW,eX,eU,eT,fB,fC,dL,dM,dY,eu,eD,eC,ez,ee,dE,dS,ei,aL,aQ,aI,bQ,b8,bY,br,cY,dX,fD,fc,dF,dO,dV,dJ,dw,dr,Te]
 rfl
theorem UX (k:Nat):ag .other .eql (.int .i64 k) (.int .i64 0)=some (.bool (decide (k=0))):=nT
theorem HP {x y:NV} (neg:Bool) (hx:NOk x) (hy:NOk y) (lx:(aD x.v).length < 2 ^ 38) (ly:(aD y.v).length < 2 ^ 38):(y.v=0/\AP ae 79 [.bool neg,x.av,y.av]=some (.tup [zR.av,.int .i64 31])) \/
  (y.v≠0/\∃ r:RV,AP ae 79 [.bool neg,x.av,y.av]=some (.tup [r.av,.int .i64 0])/\Can r (dK neg x.v y.v)/\r.fr=r):=by
 obtain ⟨kb,e0,e0'⟩:=qhj hy.fr;have e1:=qhf hx.fr hy.fr lx ly;have v1:x.fr.v=x.v:=rfl;have v2:y.fr.v=y.v:=rfl;rw[v1,v2] at e1;rw[v2] at e0'
 have lg:(aD (Nat.gcd x.v y.v)).length < 2 ^ 38:=by
  by_cases h0:x.v=0
  ·rw[h0,Nat.gcd_zero_left];exact ly
  ·exact jJ (kX (Nat.gcd_le_left _ (oX h0))) lx
 have hg:NOk (bK (Nat.gcd x.v y.v)):=ik (by omega);have e3:=SW hx.fr hg (by rw[v1];omega) (by rw[fO];omega);have e4:=SW hy.fr hg (by rw[v2];omega) (by rw[fO];omega)
 by_cases h0:y.v=0
 ·refine .inl ⟨h0,cM _ _ (A9 zR (jX _ _)) rfl (m:=[cR zR]) ?_⟩;rw[SO];simp only[Nat.reduceAdd,aa,aS,dk,dZ,cX,eZ,eY,df,dh,dc,ff,fg,eG,eH,eF,dI,dP,fh,eJ,eK,eI,dp,dz,fk,eM,eN,eL,dT,dW,fq,eQ,eR,eP,eO,ft,fA,eW,eX,eU,eT,fB,fC,dL,dM,dY,eu,eD,eC,ez,ee,dE,dS,ei,aL,aQ,aI,bQ,b8,bY,br,cY,dX,fD,fc,dF,dO,dV,dJ,dw,dr,e0,UX,aA];rw[an (e0'.2 h0)]
 ·refine .inr ⟨h0,?_⟩
  have tW:Nat.gcd x.v y.v≠0:=by
   have:=Nat.gcd_pos_of_pos_right x.v (oX h0);omega
  unfold ML at e3 e4;rw[fO,aj tW,v1] at e3;rw[fO,aj tW,v2] at e4
  refine ⟨⟨neg && decide (x.v / Nat.gcd x.v y.v > 0),bK (x.v / Nat.gcd x.v y.v),bK (y.v / Nat.gcd x.v y.v)⟩,?_,⟨(YV h0).symm,?_,?_,Fa _,Fa _⟩,?_⟩
  ·refine (cM _ _ (A9 ⟨neg && decide (x.v / Nat.gcd x.v y.v > 0),bK (x.v / Nat.gcd x.v y.v),bK (y.v / Nat.gcd x.v y.v)⟩ (jX .i64 0)) rfl (m:=[cR ⟨neg && decide (x.v / Nat.gcd x.v y.v > 0),bK (x.v / Nat.gcd x.v y.v),bK (y.v / Nat.gcd x.v y.v)⟩]) ?_).trans (by simp only[RV.fr,jQ]);rw[SO];simp only[Nat.reduceAdd,aa,aS,dk,dZ,cX,eZ,eY,df,dh,dc,ff,fg,eG,eH,eF,dI,dP,fh,eJ,eK,eI,dp,dz,fk,eM,eN,eL,dT,dW,fq,eQ,eR,eP,eO,ft,fA,eW,eX,eU,eT,fB,fC,dL,dM,dY,eu,eD,eC,ez,ee,dE,dS,ei,aL,aQ,aI,bQ,b8,bY,br,cY,dX,fD,fc,dF,dO,dV,dJ,dw,dr,e0,UX,aA];rw[aj (fun h=>h0 (e0'.1 h))];simp only[Nat.reduceAdd,aa,aS,dk,dZ,cX,eZ,eY,df,dh,dc,ff,fg,eG,eH,eF,dI,dP,fh,eJ,eK,eI,dp,dz,fk,eM,eN,eL,dT,dW,fq,eQ,eR,eP,eO,ft,fA,eW,eX,eU,eT,fB,fC,dL,dM,dY,eu,eD,eC,ez,ee,dE,dS,ei,aL,aQ,aI,bQ,b8,bY,br,cY,dX,fD,fc,dF,dO,dV,dJ,dw,dr,e1,jQ,e3,e4,pv,vJ]
   have hlen:decide ((aD (x.v / Nat.gcd x.v y.v)).length > 0)=decide (x.v / Nat.gcd x.v y.v > 0):=jL.2 (by
    constructor
    ·intro h;apply oX;intro e;rw[e,lF] at h;simp at h
    ·intro h;have:(aD (x.v / Nat.gcd x.v y.v)).length≠0:=fun e=>by have:=nq.1 e;omega
     omega)
   cases neg with
   | false=>rfl
   | true=>
    rw[oQ,hlen];simp only[Nat.reduceAdd,aa,aS,dk,dZ,cX,eZ,eY,df,dh,dc,ff,fg,eG,eH,eF,dI,dP,fh,eJ,eK,eI,dp,dz,fk,eM,eN,eL,dT,dW,fq,eQ,eR,eP,eO,ft,fA,eW,eX,eU,eT,fB,fC,dL,dM,dY,eu,eD,eC,ez,ee,dE,dS,ei,aL,aQ,aI,bQ,b8,bY,br,cY,dX,fD,fc,dF,dO,dV,dJ,dw,dr,iN]
  ·rw[Pv h0];exact ki _
  ·rw[Pw h0];exact ki _
  ·simp only[RV.fr,jQ]
theorem AR {r:RV} {k:Nat} (h:ROk k r) (hk:k < 2 ^ 38):∃ s:RV,AP ae 74 [r.av]=some s.av/\Can s r.q/\s.fr=s:=by
 have ln:=ef h.num.v_len h.ln;have ld:=ef h.den.v_len h.ld
 rcases HP r.neg h.num.fr h.den.fr (by show (aD r.num.v).length < _;omega) (by show (aD r.den.v).length < _;omega) with ⟨h0,h1⟩ | ⟨h0,s,h1,h2,h3⟩
 ·refine ⟨jG,(cM _ _ (hP jG) (kZ _) (m:=[cR r,cR jG,cR zR]) ?_).trans (by rw[Ae]),?_,Ae⟩
  ·rw[SM];simp only[Nat.reduceAdd,aa,aS,dk,dZ,cX,eZ,eY,df,dh,dc,ff,fg,eG,eH,eF,dI,dP,fh,eJ,eK,eI,dp,dz,fk,eM,eN,eL,dT,dW,fq,eQ,eR,eP,eO,ft,fA,eW,eX,eU,eT,fB,fC,dL,dM,dY,eu,eD,eC,ez,ee,dE,dS,ei,aL,aQ,aI,bQ,b8,bY,br,cY,dX,fD,fc,dF,dO,dV,dJ,dw,dr,h1,gZ,aA];rw[an (by decide)];simp only[Nat.reduceAdd,aa,aS,dk,dZ,cX,eZ,eY,df,dh,dc,ff,fg,eG,eH,eF,dI,dP,fh,eJ,eK,eI,dp,dz,fk,eM,eN,eL,dT,dW,fq,eQ,eR,eP,eO,ft,fA,eW,eX,eU,eT,fB,fC,dL,dM,dY,eu,eD,eC,ez,ee,dE,dS,ei,aL,aQ,aI,bQ,b8,bY,br,cY,dX,fD,fc,dF,dO,dV,dJ,dw,dr,Me]
  ·have:r.den.v=0:=h0;rw[RV.q,this,zK];exact My
 ·refine ⟨s,(cM _ _ (hP s) (kZ _) (m:=[cR r,cR s,cR s]) ?_).trans (by rw[h3]),h2,h3⟩;rw[SM];simp only[Nat.reduceAdd,aa,aS,dk,dZ,cX,eZ,eY,df,dh,dc,ff,fg,eG,eH,eF,dI,dP,fh,eJ,eK,eI,dp,dz,fk,eM,eN,eL,dT,dW,fq,eQ,eR,eP,eO,ft,fA,eW,eX,eU,eT,fB,fC,dL,dM,dY,eu,eD,eC,ez,ee,dE,dS,ei,aL,aQ,aI,bQ,b8,bY,br,cY,dX,fD,fc,dF,dO,dV,dJ,dw,dr,h1,gZ,aA];rw[aj (by decide)]
end Go.Ab
namespace Go.Ab
open Go.Proofs.Tryz
def Fc (q:Rat):Int:=if q=0 then 0 else if q.num < 0 then -1 else 1
theorem qpz (q:Rat):Fc q=0↔q=0:=by
 unfold Fc
 constructor
 ·intro h
  split at h
  ·assumption
  ·split at h<;>omega
 ·intro h;rw[an h]
theorem Can.len0 {r:RV} {q:Rat} (h:Can r q):r.num.ds.length=0↔q=0:=by
 rw[h.num,nq,Int.natAbs_eq_zero,Rat.num_eq_zero]
theorem V57 {r:RV} {k:Nat} (h:ROk k r) (hk:k < 2 ^ 38):AP ae 57 [r.av]=some (.int .i64 (Fc r.q)):=by
 obtain ⟨s,e1,e2,e3⟩:=AR h.fr hk;rw[RV.fr_q] at e2;refine cM _ _ (fW _ _) rfl (m:=[cR s]) ?_;rw[T57];simp only[Nat.reduceAdd,aa,aS,dk,dZ,cX,eZ,eY,df,dh,dc,ff,fg,eG,eH,eF,dI,dP,fh,eJ,eK,eI,dp,dz,fk,eM,eN,eL,dT,dW,fq,eQ,eR,eP,eO,ft,fA,eW,eX,eU,eT,fB,fC,dL,dM,dY,eu,eD,eC,ez,ee,dE,dS,ei,aL,aQ,aI,bQ,b8,bY,br,cY,dX,fD,fc,dF,dO,dV,dJ,dw,dr,e1,iJ,nT,aA];unfold Fc
 by_cases h0:r.q=0
 ·rw[an (e2.len0.2 h0),an h0]
 ·rw[aj (fun hh=>h0 (e2.len0.1 hh)),aj h0,e2.neg,aA];split<;>rfl
theorem qho {r:RV} {k:Nat} (h:ROk k r) (hk:k < 2 ^ 38):∃ s:RV,AP ae 169 [r.av]=some s.av/\Can s (-r.q)/\s.fr=s:=by
 obtain ⟨s,e1,e2,e3⟩:=AR h.fr hk;rw[RV.fr_q] at e2
 have hlen:∀ b:Bool,decide (s.num.ds.length > 0)=decide (r.q≠0):=by
  intro b;refine jL.2 ?_;have:=e2.len0
  constructor
  ·intro h1 h2;have:=this.2 h2;omega
  ·intro h1;have:s.num.ds.length≠0:=fun e=>h1 (this.1 e);omega
 have ml:s.num.fr=s.num:=cI RV.num e3;have nR:s.den.fr=s.den:=cI RV.den e3
 have hc:∀ b:Bool,b=decide ((-r.q).num < 0)->Can ⟨b,s.num,s.den⟩ (-r.q):=by
  intro b hb
  refine ⟨hb,?_,?_,e2.numz,e2.denz⟩
  ·rw[Rat.neg_num,Int.natAbs_neg];exact e2.num
  ·rw[Rat.neg_den];exact e2.den
 cases hn:s.neg with
 | true=>
  have hq:r.q.num < 0:=by have:=e2.neg;rw[hn] at this;exact xp this.symm
  refine ⟨⟨false,s.num,s.den⟩,(cM _ _ (hP ⟨false,s.num,s.den⟩) (kZ _) (m:=[cR ⟨false,s.num,s.den⟩,cR ⟨false,s.num,s.den⟩]) ?_).trans (by simp only[RV.fr,ml,nR]),hc false ?_,by simp only[RV.fr,ml,nR]⟩
  ·rw[SI];simp only[Nat.reduceAdd,aa,aS,dk,dZ,cX,eZ,eY,df,dh,dc,ff,fg,eG,eH,eF,dI,dP,fh,eJ,eK,eI,dp,dz,fk,eM,eN,eL,dT,dW,fq,eQ,eR,eP,eO,ft,fA,eW,eX,eU,eT,fB,fC,dL,dM,dY,eu,eD,eC,ez,ee,dE,dS,ei,aL,aQ,aI,bQ,b8,bY,br,cY,dX,fD,fc,dF,dO,dV,dJ,dw,dr,e1,hn,jU,oP]
  ·rw[Rat.neg_num];exact (cT (by omega)).symm
 | false=>
  have hq:¬ r.q.num < 0:=by have:=e2.neg;rw[hn] at this;exact of_decide_eq_false this.symm
  refine ⟨⟨decide (r.q≠0),s.num,s.den⟩,(cM _ _ (hP ⟨decide (r.q≠0),s.num,s.den⟩) (kZ _) (m:=[cR ⟨decide (r.q≠0),s.num,s.den⟩,cR ⟨decide (r.q≠0),s.num,s.den⟩]) ?_).trans (by simp only[RV.fr,ml,nR]),hc _ ?_,by simp only[RV.fr,ml,nR]⟩
  ·rw[SI];simp only[Nat.reduceAdd,aa,aS,dk,dZ,cX,eZ,eY,df,dh,dc,ff,fg,eG,eH,eF,dI,dP,fh,eJ,eK,eI,dp,dz,fk,eM,eN,eL,dT,dW,fq,eQ,eR,eP,eO,ft,fA,eW,eX,eU,eT,fB,fC,dL,dM,dY,eu,eD,eC,ez,ee,dE,dS,ei,aL,aQ,aI,bQ,b8,bY,br,cY,dX,fD,fc,dF,dO,dV,dJ,dw,dr,e1,hn,nH,oQ,iJ,vJ,hlen true]
  ·rw[Rat.neg_num];refine jL.2 ?_;have h0:r.q=0↔r.q.num=0:=Rat.num_eq_zero.symm
   constructor
   ·intro h1;have:r.q.num≠0:=fun e=>h1 (h0.2 e);omega
   ·intro h1 h2;have:=h0.1 h2;omega
theorem Tb {a b:RV} {k:Nat} (ha:ROk k a) (hb:ROk k b) (hk1:1<=k) (hk:k < 2 ^ 36):∃ s:RV,AP ae 22 [a.av,b.av]=some s.av/\Can s (a.q+b.q)/\s.fr=s:=by
 obtain ⟨s,e1,e2,e3⟩:=AR ha.fr (by omega);obtain ⟨t,f1,f2,f3⟩:=AR hb.fr (by omega);rw[RV.fr_q] at e2 f2;have os:=e2.ok (ha.bd hk1) (by omega);have ot:=f2.ok (hb.bd hk1) (by omega);have ml:s.num.fr=s.num:=cI RV.num e3;have nR:s.den.fr=s.den:=cI RV.den e3;have vB:t.num.fr=t.num:=cI RV.num f3;have vC:t.den.fr=t.den:=cI RV.den f3;have lx:=oS (ef os.num.v_len os.ln) (ef ot.den.v_len ot.ld);have ly:=oS (ef ot.num.v_len ot.ln) (ef os.den.v_len os.ld);have ld:=oS (ef os.den.v_len os.ld) (ef ot.den.v_len ot.ld);have lxy:=OQ lx ly;have g1:=AS os.num ot.den;have g2:=AS ot.num os.den;have g3:=AS os.den ot.den;have ox:NOk (bK (s.num.v * t.den.v)):=ik (by omega);have oy:NOk (bK (t.num.v * s.den.v)):=ik (by omega);have od:NOk (bK (s.den.v * t.den.v)):=ik (by omega);have g4:=Tf ox oy (jQ _) (jQ _);have g5:=Dw ox oy;have g6:=Dx ox oy (jQ _) (jQ _);have g7:=Dx oy ox (jQ _) (jQ _);rw[fO,fO] at g4 g5;unfold Cc at g6 g7;rw[fO,fO] at g6 g7;have wR:s.den.v * t.den.v≠0:=Nat.mul_ne_zero e2.den0 f2.den0
 have mR:a.q+b.q=mkRat (fP s.neg (s.num.v * t.den.v)+fP t.neg (t.num.v * s.den.v)) (s.den.v * t.den.v):=by
  rw[<- e2.q,<- f2.q];exact Jw e2.den0 f2.den0
 have fin:∀ (neg:Bool) (n:Nat),(aD n).length < 2 ^ 38->mkRat (fP s.neg (s.num.v * t.den.v)+fP t.neg (t.num.v * s.den.v)) (s.den.v * t.den.v)=dK neg n (s.den.v * t.den.v)->∃ r:RV,AP ae 79 [.bool neg,(bK n).av,(bK (s.den.v * t.den.v)).av]=some (.tup [r.av,.int .i64 0])/\Can r (a.q+b.q)/\r.fr=r:=by
  intro neg n hn he
  rcases HP neg (ik (n:=n) (by omega)) od (by rw[fO];exact hn) (by rw[fO];omega) with ⟨h0,_⟩ | ⟨_,r,h1,h2,h3⟩
  ·rw[fO] at h0;exact absurd h0 wR
  ·rw[fO,fO,<- he,<- mR] at h2;exact ⟨r,h1,h2,h3⟩
 by_cases hn:s.neg=t.neg
 ·obtain ⟨r,h1,h2,h3⟩:=fin s.neg (s.num.v * t.den.v+t.num.v * s.den.v) (by omega) (by rw[<- hn,Zy];rfl);refine ⟨r,(cM _ _ (hP r) (kZ _) (m:=[cR s,cR t,cR r,cR r]) ?_).trans (by rw[h3]),h2,h3⟩;rw[L7];simp only[Nat.reduceAdd,aa,aS,dk,dZ,cX,eZ,eY,df,dh,dc,ff,fg,eG,eH,eF,dI,dP,fh,eJ,eK,eI,dp,dz,fk,eM,eN,eL,dT,dW,fq,eQ,eR,eP,eO,ft,fA,eW,eX,eU,eT,fB,fC,dL,dM,dY,eu,eD,eC,ez,ee,dE,dS,ei,aL,aQ,aI,bQ,b8,bY,br,cY,dX,fD,fc,dF,dO,dV,dJ,dw,dr,e1,f1,ml,nR,vB,vC,g1,g2,g3,jQ,g4,hn,bne_self_eq_false,oP];rw[hn] at h1;simp only[Nat.reduceAdd,aa,aS,dk,dZ,cX,eZ,eY,df,dh,dc,ff,fg,eG,eH,eF,dI,dP,fh,eJ,eK,eI,dp,dz,fk,eM,eN,eL,dT,dW,fq,eQ,eR,eP,eO,ft,fA,eW,eX,eU,eT,fB,fC,dL,dM,dY,eu,eD,eC,ez,ee,dE,dS,ei,aL,aQ,aI,bQ,b8,bY,br,cY,dX,fD,fc,dF,dO,dV,dJ,dw,dr,h1]
 ·have hne:(s.neg != t.neg)=true:=by simpa using hn
  by_cases hlt:s.num.v * t.den.v < t.num.v * s.den.v
  ·obtain ⟨r,h1,h2,h3⟩:=fin t.neg (t.num.v * s.den.v - s.num.v * t.den.v) (jJ (kX (Nat.sub_le _ _)) (by omega)) (by rw[Zw hn hlt];rfl);refine ⟨r,(cM _ _ (hP r) (kZ _) (m:=[cR s,cR t,cR r,cR r]) ?_).trans (by rw[h3]),h2,h3⟩;have hc:¬ gW (s.num.v * t.den.v) (t.num.v * s.den.v)≥0:=by unfold gW;rw[an hlt];omega
   rw[aj (by omega)] at g7;rw[L7];simp only[Nat.reduceAdd,aa,aS,dk,dZ,cX,eZ,eY,df,dh,dc,ff,fg,eG,eH,eF,dI,dP,fh,eJ,eK,eI,dp,dz,fk,eM,eN,eL,dT,dW,fq,eQ,eR,eP,eO,ft,fA,eW,eX,eU,eT,fB,fC,dL,dM,dY,eu,eD,eC,ez,ee,dE,dS,ei,aL,aQ,aI,bQ,b8,bY,br,cY,dX,fD,fc,dF,dO,dV,dJ,dw,dr,e1,f1,ml,nR,vB,vC,g1,g2,g3,jQ,g4,hne,oQ,g5,kK,aA];rw[aj hc];simp only[Nat.reduceAdd,aa,aS,dk,dZ,cX,eZ,eY,df,dh,dc,ff,fg,eG,eH,eF,dI,dP,fh,eJ,eK,eI,dp,dz,fk,eM,eN,eL,dT,dW,fq,eQ,eR,eP,eO,ft,fA,eW,eX,eU,eT,fB,fC,dL,dM,dY,eu,eD,eC,ez,ee,dE,dS,ei,aL,aQ,aI,bQ,b8,bY,br,cY,dX,fD,fc,dF,dO,dV,dJ,dw,dr,jQ,g7,h1]
  ·obtain ⟨r,h1,h2,h3⟩:=fin s.neg (s.num.v * t.den.v - t.num.v * s.den.v) (jJ (kX (Nat.sub_le _ _)) (by omega)) (by rw[Zv hn hlt];rfl);refine ⟨r,(cM _ _ (hP r) (kZ _) (m:=[cR s,cR t,cR r,cR r]) ?_).trans (by rw[h3]),h2,h3⟩;have hc:gW (s.num.v * t.den.v) (t.num.v * s.den.v)≥0:=by unfold gW;rw[aj hlt];split<;>omega
   rw[aj hlt] at g6;rw[L7];simp only[Nat.reduceAdd,aa,aS,dk,dZ,cX,eZ,eY,df,dh,dc,ff,fg,eG,eH,eF,dI,dP,fh,eJ,eK,eI,dp,dz,fk,eM,eN,eL,dT,dW,fq,eQ,eR,eP,eO,ft,fA,eW,eX,eU,eT,fB,fC,dL,dM,dY,eu,eD,eC,ez,ee,dE,dS,ei,aL,aQ,aI,bQ,b8,bY,br,cY,dX,fD,fc,dF,dO,dV,dJ,dw,dr,e1,f1,ml,nR,vB,vC,g1,g2,g3,jQ,g4,hne,oQ,g5,kK,aA];rw[an hc];simp only[Nat.reduceAdd,aa,aS,dk,dZ,cX,eZ,eY,df,dh,dc,ff,fg,eG,eH,eF,dI,dP,fh,eJ,eK,eI,dp,dz,fk,eM,eN,eL,dT,dW,fq,eQ,eR,eP,eO,ft,fA,eW,eX,eU,eT,fB,fC,dL,dM,dY,eu,eD,eC,ez,ee,dE,dS,ei,aL,aQ,aI,bQ,b8,bY,br,cY,dX,fD,fc,dF,dO,dV,dJ,dw,dr,jQ,g6,h1]
theorem qhi {a b:RV} {k:Nat} (ha:ROk k a) (hb:ROk k b) (hk1:1<=k) (hk:k < 2 ^ 36):∃ s:RV,AP ae 134 [a.av,b.av]=some s.av/\Can s (a.q - b.q)/\s.fr=s:=by
 obtain ⟨t,f1,f2,f3⟩:=qho hb.fr (by omega);rw[RV.fr_q] at f2
 have bt:Bd k (-b.q):=by
  have:=hb.bd hk1
  refine ⟨?_,?_⟩
  ·rw[Rat.neg_num,Int.natAbs_neg];exact this.1
  ·rw[Rat.neg_den];exact this.2
 have ot:=f2.ok bt (by omega);obtain ⟨s,e1,e2,e3⟩:=Tb ha.fr ot hk1 hk;rw[f2.q,RV.fr_q,<- Rat.sub_eq_add_neg] at e2;refine ⟨s,(cM _ _ (hP s) (kZ _) (m:=[cR a,cR b,cR s]) ?_).trans (by rw[e3]),e2,e3⟩;rw[qgD];simp only[Nat.reduceAdd,aa,aS,dk,dZ,cX,eZ,eY,df,dh,dc,ff,fg,eG,eH,eF,dI,dP,fh,eJ,eK,eI,dp,dz,fk,eM,eN,eL,dT,dW,fq,eQ,eR,eP,eO,ft,fA,eW,eX,eU,eT,fB,fC,dL,dM,dY,eu,eD,eC,ez,ee,dE,dS,ei,aL,aQ,aI,bQ,b8,bY,br,cY,dX,fD,fc,dF,dO,dV,dJ,dw,dr,f1,f3,e1]
theorem V73 {a b:RV} {k:Nat} (ha:ROk k a) (hb:ROk k b) (hk1:1<=k) (hk:k < 2 ^ 36):AP ae 73 [a.av,b.av]=some (.int .i64 (Fc (a.q - b.q))):=by
 obtain ⟨s,e1,e2,e3⟩:=qhi ha.fr hb.fr hk1 hk;rw[RV.fr_q,RV.fr_q] at e2
 have bs:=Qr (ha.bd hk1) (q:=-b.q) (l:=k) (by
  have:=hb.bd hk1
  refine ⟨?_,?_⟩
  ·rw[Rat.neg_num,Int.natAbs_neg];exact this.1
  ·rw[Rat.neg_den];exact this.2) hk1
 rw[<- Rat.sub_eq_add_neg] at bs;have os:=e2.ok bs (by omega);have e4:=V57 os (by omega);rw[e2.q] at e4;refine cM _ _ (fW _ _) rfl (m:=[cR a,cR b]) ?_;rw[T73];simp only[Nat.reduceAdd,aa,aS,dk,dZ,cX,eZ,eY,df,dh,dc,ff,fg,eG,eH,eF,dI,dP,fh,eJ,eK,eI,dp,dz,fk,eM,eN,eL,dT,dW,fq,eQ,eR,eP,eO,ft,fA,eW,eX,eU,eT,fB,fC,dL,dM,dY,eu,eD,eC,ez,ee,dE,dS,ei,aL,aQ,aI,bQ,b8,bY,br,cY,dX,fD,fc,dF,dO,dV,dJ,dw,dr,e1,e3,e4]
theorem Ta {a b:RV} {k:Nat} (ha:ROk k a) (hb:ROk k b) (hk1:1<=k) (hk:k < 2 ^ 36):AP ae 21 [a.av,b.av]=some (.bool (decide (a.q=b.q))):=by
 have e1:=V73 ha.fr hb.fr hk1 hk;rw[RV.fr_q,RV.fr_q] at e1;refine cM _ _ (qG _) rfl (m:=[cR a,cR b]) ?_;rw[T21];simp only[Nat.reduceAdd,aa,aS,dk,dZ,cX,eZ,eY,df,dh,dc,ff,fg,eG,eH,eF,dI,dP,fh,eJ,eK,eI,dp,dz,fk,eM,eN,eL,dT,dW,fq,eQ,eR,eP,eO,ft,fA,eW,eX,eU,eT,fB,fC,dL,dM,dY,eu,eD,eC,ez,ee,dE,dS,ei,aL,aQ,aI,bQ,b8,bY,br,cY,dX,fD,fc,dF,dO,dV,dJ,dw,dr,e1,iM];congr 3;refine jL.2 ?_;rw[qpz]
 constructor
 ·intro h;have:=Rat.sub_add_cancel (a:=a.q) (b:=b.q);rw[h,Rat.zero_add] at this;exact this.symm
 ·intro h;rw[h,Rat.sub_self]
end Go.Ab
namespace Go.Ab
open Go.Proofs.Tryz
theorem qhe {a b:RV} {k:Nat} (ha:ROk k a) (hb:ROk k b) (hk1:1<=k) (hk:k < 2 ^ 36):∃ s:RV,AP ae 117 [a.av,b.av]=some s.av/\Can s (a.q * b.q)/\s.fr=s:=by
 obtain ⟨s,e1,e2,e3⟩:=AR ha.fr (by omega);obtain ⟨t,f1,f2,f3⟩:=AR hb.fr (by omega);rw[RV.fr_q] at e2 f2;have os:=e2.ok (ha.bd hk1) (by omega);have ot:=f2.ok (hb.bd hk1) (by omega);have ml:s.num.fr=s.num:=cI RV.num e3;have nR:s.den.fr=s.den:=cI RV.den e3;have vB:t.num.fr=t.num:=cI RV.num f3;have vC:t.den.fr=t.den:=cI RV.den f3;have ln:=oS (ef os.num.v_len os.ln) (ef ot.num.v_len ot.ln);have ld:=oS (ef os.den.v_len os.ld) (ef ot.den.v_len ot.ld);have g1:=AS os.num ot.num;have g3:=AS os.den ot.den;have on:NOk (bK (s.num.v * t.num.v)):=ik (by omega);have od:NOk (bK (s.den.v * t.den.v)):=ik (by omega);have wR:s.den.v * t.den.v≠0:=Nat.mul_ne_zero e2.den0 f2.den0;have hq:dK (s.neg != t.neg) (s.num.v * t.num.v) (s.den.v * t.den.v)=a.q * b.q:=by rw[<- B3,<- e2.q,<- f2.q];rfl
 rcases HP (s.neg != t.neg) on od (by rw[fO];omega) (by rw[fO];omega) with ⟨h0,_⟩ | ⟨_,r,h1,h2,h3⟩
 ·rw[fO] at h0;exact absurd h0 wR
 ·rw[fO,fO,hq] at h2;refine ⟨r,(cM _ _ (hP r) (kZ _) (m:=[cR s,cR t,cR r,cR r]) ?_).trans (by rw[h3]),h2,h3⟩;rw[qgq];simp only[Nat.reduceAdd,aa,aS,dk,dZ,cX,eZ,eY,df,dh,dc,ff,fg,eG,eH,eF,dI,dP,fh,eJ,eK,eI,dp,dz,fk,eM,eN,eL,dT,dW,fq,eQ,eR,eP,eO,ft,fA,eW,eX,eU,eT,fB,fC,dL,dM,dY,eu,eD,eC,ez,ee,dE,dS,ei,aL,aQ,aI,bQ,b8,bY,br,cY,dX,fD,fc,dF,dO,dV,dJ,dw,dr,e1,f1,ml,nR,vB,vC,g1,g3,jQ,h1]
theorem Mh {a b:RV} {k:Nat} (ha:ROk k a) (hb:ROk k b) (hk1:1<=k) (hk:k < 2 ^ 36):∃ s:RV,AP ae 69 [a.av,b.av]=some s.av/\Can s (a.q * b.q)/\s.fr=s:=by
 have g1:=yo ha.num.fr hb.num.fr;have g2:=yo ha.den.fr hb.den.fr;have v1:a.num.fr.v=a.num.v:=rfl;have v2:a.den.fr.v=a.den.v:=rfl;have v3:b.num.fr.v=b.num.v:=rfl;have v4:b.den.fr.v=b.den.v:=rfl;rw[v1,v3] at g1;rw[v2,v4] at g2;have ln:=oS (ef ha.num.v_len ha.ln) (ef hb.num.v_len hb.ln);have ld:=oS (ef ha.den.v_len ha.ld) (ef hb.den.v_len hb.ld);have on:NOk ⟨false,.no,aD (a.num.v * b.num.v)⟩:=um (by omega);have od:NOk ⟨false,.no,aD (a.den.v * b.den.v)⟩:=um (by omega);have nf:∀ n:Nat,(NV.mk false .no (aD n)).fr=⟨false,.no,aD n⟩:=fun _=>rfl;have nv:∀ n:Nat,(NV.mk false .no (aD n)).v=n:=fun n=>gz n;obtain ⟨r,h1,h2,h3⟩:=HK (a.neg != b.neg) on od;rw[nv,nv,<- B3] at h2;refine ⟨r,(cM _ _ (hP r) (kZ _) (m:=[cR a,cR b,cR r]) ?_).trans (by rw[h3]),h2,h3⟩;rw[T69];simp only[Nat.reduceAdd,aa,aS,dk,dZ,cX,eZ,eY,df,dh,dc,ff,fg,eG,eH,eF,dI,dP,fh,eJ,eK,eI,dp,dz,fk,eM,eN,eL,dT,dW,fq,eQ,eR,eP,eO,ft,fA,eW,eX,eU,eT,fB,fC,dL,dM,dY,eu,eD,eC,ez,ee,dE,dS,ei,aL,aQ,aI,bQ,b8,bY,br,cY,dX,fD,fc,dF,dO,dV,dJ,dw,dr,g1,g2,nf,h1]
theorem ZE {r:RV}:jl r=0↔r.q=0:=by
 unfold jl
 by_cases h:r.num.v=0\/r.den.v=0
 ·rw[an h];refine ⟨fun _=>?_,fun _=>rfl⟩
  rcases h with h | h
  ·rw[RV.q,h,xy]
  ·rw[RV.q,h,zK]
 ·rw[aj h]
  constructor
  ·intro h';split at h'<;>omega
  ·intro h';have hd:r.den.v≠0:=fun e=>h (.inr e);exact absurd (.inl ((YU hd).1 h')) h
theorem HO {a b:RV} {k:Nat} (ha:ROk k a) (hb:ROk k b) (hk1:1<=k) (hk:k < 2 ^ 36):∃ s:RV,AP ae 71 [a.av,b.av]=some s.av/\Can s (a.q+b.q)/\s.fr=s:=by
 have e1:=HL ha.fr;have e2:=HL hb.fr;have s1:jl a.fr=jl a:=rfl;have s2:jl b.fr=jl b:=rfl;rw[s1] at e1;rw[s2] at e2;have v1:a.num.fr.v=a.num.v:=rfl;have v2:a.den.fr.v=a.den.v:=rfl;have v3:b.num.fr.v=b.num.v:=rfl;have v4:b.den.fr.v=b.den.v:=rfl
 by_cases yM:jl a=0
 ·obtain ⟨r,h1,h2,h3⟩:=HK b.neg hb.num.fr hb.den.fr;rw[v3,v4] at h2
  refine ⟨r,(cM _ _ (hP r) (kZ _) (m:=[cR a,cR b,cR r]) ?_).trans (by rw[h3]),?_,h3⟩
  ·rw[Dt];simp only[Nat.reduceAdd,aa,aS,dk,dZ,cX,eZ,eY,df,dh,dc,ff,fg,eG,eH,eF,dI,dP,fh,eJ,eK,eI,dp,dz,fk,eM,eN,eL,dT,dW,fq,eQ,eR,eP,eO,ft,fA,eW,eX,eU,eT,fB,fC,dL,dM,dY,eu,eD,eC,ez,ee,dE,dS,ei,aL,aQ,aI,bQ,b8,bY,br,cY,dX,fD,fc,dF,dO,dV,dJ,dw,dr,e1,iM,aA];rw[an yM];simp only[Nat.reduceAdd,aa,aS,dk,dZ,cX,eZ,eY,df,dh,dc,ff,fg,eG,eH,eF,dI,dP,fh,eJ,eK,eI,dp,dz,fk,eM,eN,eL,dT,dW,fq,eQ,eR,eP,eO,ft,fA,eW,eX,eU,eT,fB,fC,dL,dM,dY,eu,eD,eC,ez,ee,dE,dS,ei,aL,aQ,aI,bQ,b8,bY,br,cY,dX,fD,fc,dF,dO,dV,dJ,dw,dr,h1]
  ·rw[ZE.1 yM,Rat.zero_add];exact h2
 ·by_cases hb0:jl b=0
  ·obtain ⟨r,h1,h2,h3⟩:=HK a.neg ha.num.fr ha.den.fr;rw[v1,v2] at h2
   refine ⟨r,(cM _ _ (hP r) (kZ _) (m:=[cR a,cR b,cR r]) ?_).trans (by rw[h3]),?_,h3⟩
   ·rw[Dt];simp only[Nat.reduceAdd,aa,aS,dk,dZ,cX,eZ,eY,df,dh,dc,ff,fg,eG,eH,eF,dI,dP,fh,eJ,eK,eI,dp,dz,fk,eM,eN,eL,dT,dW,fq,eQ,eR,eP,eO,ft,fA,eW,eX,eU,eT,fB,fC,dL,dM,dY,eu,eD,eC,ez,ee,dE,dS,ei,aL,aQ,aI,bQ,b8,bY,br,cY,dX,fD,fc,dF,dO,dV,dJ,dw,dr,e1,iM,aA];rw[aj yM];simp only[Nat.reduceAdd,aa,aS,dk,dZ,cX,eZ,eY,df,dh,dc,ff,fg,eG,eH,eF,dI,dP,fh,eJ,eK,eI,dp,dz,fk,eM,eN,eL,dT,dW,fq,eQ,eR,eP,eO,ft,fA,eW,eX,eU,eT,fB,fC,dL,dM,dY,eu,eD,eC,ez,ee,dE,dS,ei,aL,aQ,aI,bQ,b8,bY,br,cY,dX,fD,fc,dF,dO,dV,dJ,dw,dr,e2,iM,aA];rw[an hb0];simp only[Nat.reduceAdd,aa,aS,dk,dZ,cX,eZ,eY,df,dh,dc,ff,fg,eG,eH,eF,dI,dP,fh,eJ,eK,eI,dp,dz,fk,eM,eN,eL,dT,dW,fq,eQ,eR,eP,eO,ft,fA,eW,eX,eU,eT,fB,fC,dL,dM,dY,eu,eD,eC,ez,ee,dE,dS,ei,aL,aQ,aI,bQ,b8,bY,br,cY,dX,fD,fc,dF,dO,dV,dJ,dw,dr,h1]
   ·rw[ZE.1 hb0,Rat.add_zero];exact h2
  ·have da:a.den.v≠0:=fun e=>yM (by unfold jl;rw[an (.inr e)]);have db:b.den.v≠0:=fun e=>hb0 (by unfold jl;rw[an (.inr e)]);have g1:=yo ha.num.fr hb.den.fr;have g2:=yo hb.num.fr ha.den.fr;have g3:=yo ha.den.fr hb.den.fr;rw[v1,v4] at g1;rw[v3,v2] at g2;rw[v2,v4] at g3;have lx:=oS (ef ha.num.v_len ha.ln) (ef hb.den.v_len hb.ld);have ly:=oS (ef hb.num.v_len hb.ln) (ef ha.den.v_len ha.ld);have ld:=oS (ef ha.den.v_len ha.ld) (ef hb.den.v_len hb.ld);have lxy:=OQ lx ly;have ox:NOk ⟨false,.no,aD (a.num.v * b.den.v)⟩:=um (by omega);have oy:NOk ⟨false,.no,aD (b.num.v * a.den.v)⟩:=um (by omega);have od:NOk ⟨false,.no,aD (a.den.v * b.den.v)⟩:=um (by omega);have nf:∀ n:Nat,(NV.mk false .no (aD n)).fr=⟨false,.no,aD n⟩:=fun _=>rfl;have nv:∀ n:Nat,(NV.mk false .no (aD n)).v=n:=fun n=>gz n;have g4:=qhh ox oy;have g5:=wu ox oy;have g6:=SV ox oy;have g7:=SV oy ox;rw[nv,nv] at g4 g5;unfold PV at g6 g7;rw[nv,nv] at g6 g7;have mR:a.q+b.q=mkRat (fP a.neg (a.num.v * b.den.v)+fP b.neg (b.num.v * a.den.v)) (a.den.v * b.den.v):=Jw da db
   have fin:∀ (neg:Bool) (n:Nat),(aD n).length < 2 ^ 38->mkRat (fP a.neg (a.num.v * b.den.v)+fP b.neg (b.num.v * a.den.v)) (a.den.v * b.den.v)=dK neg n (a.den.v * b.den.v)->∃ r:RV,AP ae 126 [.bool neg,(NV.mk false .no (aD n)).av,(NV.mk false .no (aD (a.den.v * b.den.v))).av]=some r.av/\Can r (a.q+b.q)/\r.fr=r:=by
    intro neg n hn he;obtain ⟨r,h1,h2,h3⟩:=HK neg (x:=⟨false,.no,aD n⟩) (um (by omega)) od;rw[nv,nv,<- he,<- mR] at h2;exact ⟨r,h1,h2,h3⟩
   by_cases hn:a.neg=b.neg
   ·obtain ⟨r,h1,h2,h3⟩:=fin a.neg (a.num.v * b.den.v+b.num.v * a.den.v) (by omega) (by rw[<- hn,Zy];rfl);refine ⟨r,(cM _ _ (hP r) (kZ _) (m:=[cR a,cR b,cR r]) ?_).trans (by rw[h3]),h2,h3⟩;rw[Dt];simp only[Nat.reduceAdd,aa,aS,dk,dZ,cX,eZ,eY,df,dh,dc,ff,fg,eG,eH,eF,dI,dP,fh,eJ,eK,eI,dp,dz,fk,eM,eN,eL,dT,dW,fq,eQ,eR,eP,eO,ft,fA,eW,eX,eU,eT,fB,fC,dL,dM,dY,eu,eD,eC,ez,ee,dE,dS,ei,aL,aQ,aI,bQ,b8,bY,br,cY,dX,fD,fc,dF,dO,dV,dJ,dw,dr,e1,iM,aA];rw[aj yM];simp only[Nat.reduceAdd,aa,aS,dk,dZ,cX,eZ,eY,df,dh,dc,ff,fg,eG,eH,eF,dI,dP,fh,eJ,eK,eI,dp,dz,fk,eM,eN,eL,dT,dW,fq,eQ,eR,eP,eO,ft,fA,eW,eX,eU,eT,fB,fC,dL,dM,dY,eu,eD,eC,ez,ee,dE,dS,ei,aL,aQ,aI,bQ,b8,bY,br,cY,dX,fD,fc,dF,dO,dV,dJ,dw,dr,e2,iM,aA];rw[aj hb0];rw[hn] at h1;simp only[Nat.reduceAdd,aa,aS,dk,dZ,cX,eZ,eY,df,dh,dc,ff,fg,eG,eH,eF,dI,dP,fh,eJ,eK,eI,dp,dz,fk,eM,eN,eL,dT,dW,fq,eQ,eR,eP,eO,ft,fA,eW,eX,eU,eT,fB,fC,dL,dM,dY,eu,eD,eC,ez,ee,dE,dS,ei,aL,aQ,aI,bQ,b8,bY,br,cY,dX,fD,fc,dF,dO,dV,dJ,dw,dr,g1,g2,g3,nf,hn,BEq.rfl,oQ,g4,h1]
   ·have hne:(a.neg == b.neg)=false:=by simpa using hn
    by_cases hlt:a.num.v * b.den.v < b.num.v * a.den.v
    ·obtain ⟨r,h1,h2,h3⟩:=fin b.neg (b.num.v * a.den.v - a.num.v * b.den.v) (jJ (kX (Nat.sub_le _ _)) (by omega)) (by rw[Zw hn hlt];rfl);refine ⟨r,(cM _ _ (hP r) (kZ _) (m:=[cR b,cR b,cR r]) ?_).trans (by rw[h3]),h2,h3⟩;have hc:gW (a.num.v * b.den.v) (b.num.v * a.den.v) < 0:=by unfold gW;rw[an hlt];omega
     rw[aj (by omega)] at g7;rw[Dt];simp only[Nat.reduceAdd,aa,aS,dk,dZ,cX,eZ,eY,df,dh,dc,ff,fg,eG,eH,eF,dI,dP,fh,eJ,eK,eI,dp,dz,fk,eM,eN,eL,dT,dW,fq,eQ,eR,eP,eO,ft,fA,eW,eX,eU,eT,fB,fC,dL,dM,dY,eu,eD,eC,ez,ee,dE,dS,ei,aL,aQ,aI,bQ,b8,bY,br,cY,dX,fD,fc,dF,dO,dV,dJ,dw,dr,e1,iM,aA];rw[aj yM];simp only[Nat.reduceAdd,aa,aS,dk,dZ,cX,eZ,eY,df,dh,dc,ff,fg,eG,eH,eF,dI,dP,fh,eJ,eK,eI,dp,dz,fk,eM,eN,eL,dT,dW,fq,eQ,eR,eP,eO,ft,fA,eW,eX,eU,eT,fB,fC,dL,dM,dY,eu,eD,eC,ez,ee,dE,dS,ei,aL,aQ,aI,bQ,b8,bY,br,cY,dX,fD,fc,dF,dO,dV,dJ,dw,dr,e2,iM,aA];rw[aj hb0];simp only[Nat.reduceAdd,aa,aS,dk,dZ,cX,eZ,eY,df,dh,dc,ff,fg,eG,eH,eF,dI,dP,fh,eJ,eK,eI,dp,dz,fk,eM,eN,eL,dT,dW,fq,eQ,eR,eP,eO,ft,fA,eW,eX,eU,eT,fB,fC,dL,dM,dY,eu,eD,eC,ez,ee,dE,dS,ei,aL,aQ,aI,bQ,b8,bY,br,cY,dX,fD,fc,dF,dO,dV,dJ,dw,dr,g1,g2,g3,nf,hne,oP,g5,bc,aA];rw[an hc];simp only[Nat.reduceAdd,aa,aS,dk,dZ,cX,eZ,eY,df,dh,dc,ff,fg,eG,eH,eF,dI,dP,fh,eJ,eK,eI,dp,dz,fk,eM,eN,eL,dT,dW,fq,eQ,eR,eP,eO,ft,fA,eW,eX,eU,eT,fB,fC,dL,dM,dY,eu,eD,eC,ez,ee,dE,dS,ei,aL,aQ,aI,bQ,b8,bY,br,cY,dX,fD,fc,dF,dO,dV,dJ,dw,dr,nf,g7,h1]
    ·obtain ⟨r,h1,h2,h3⟩:=fin a.neg (a.num.v * b.den.v - b.num.v * a.den.v) (jJ (kX (Nat.sub_le _ _)) (by omega)) (by rw[Zv hn hlt];rfl);refine ⟨r,(cM _ _ (hP r) (kZ _) (m:=[cR a,cR b,cR r]) ?_).trans (by rw[h3]),h2,h3⟩;have hc:¬ gW (a.num.v * b.den.v) (b.num.v * a.den.v) < 0:=by unfold gW;rw[aj hlt];split<;>omega
     rw[aj hlt] at g6;rw[Dt];simp only[Nat.reduceAdd,aa,aS,dk,dZ,cX,eZ,eY,df,dh,dc,ff,fg,eG,eH,eF,dI,dP,fh,eJ,eK,eI,dp,dz,fk,eM,eN,eL,dT,dW,fq,eQ,eR,eP,eO,ft,fA,eW,eX,eU,eT,fB,fC,dL,dM,dY,eu,eD,eC,ez,ee,dE,dS,ei,aL,aQ,aI,bQ,b8,bY,br,cY,dX,fD,fc,dF,dO,dV,dJ,dw,dr,e1,iM,aA];rw[aj yM];simp only[Nat.reduceAdd,aa,aS,dk,dZ,cX,eZ,eY,df,dh,dc,ff,fg,eG,eH,eF,dI,dP,fh,eJ,eK,eI,dp,dz,fk,eM,eN,eL,dT,dW,fq,eQ,eR,eP,eO,ft,fA,eW,eX,eU,eT,fB,fC,dL,dM,dY,eu,eD,eC,ez,ee,dE,dS,ei,aL,aQ,aI,bQ,b8,bY,br,cY,dX,fD,fc,dF,dO,dV,dJ,dw,dr,e2,iM,aA];rw[aj hb0];simp only[Nat.reduceAdd,aa,aS,dk,dZ,cX,eZ,eY,df,dh,dc,ff,fg,eG,eH,eF,dI,dP,fh,eJ,eK,eI,dp,dz,fk,eM,eN,eL,dT,dW,fq,eQ,eR,eP,eO,ft,fA,eW,eX,eU,eT,fB,fC,dL,dM,dY,eu,eD,eC,ez,ee,dE,dS,ei,aL,aQ,aI,bQ,b8,bY,br,cY,dX,fD,fc,dF,dO,dV,dJ,dw,dr,g1,g2,g3,nf,hne,oP,g5,bc,aA];rw[aj hc];simp only[Nat.reduceAdd,aa,aS,dk,dZ,cX,eZ,eY,df,dh,dc,ff,fg,eG,eH,eF,dI,dP,fh,eJ,eK,eI,dp,dz,fk,eM,eN,eL,dT,dW,fq,eQ,eR,eP,eO,ft,fA,eW,eX,eU,eT,fB,fC,dL,dM,dY,eu,eD,eC,ez,ee,dE,dS,ei,aL,aQ,aI,bQ,b8,bY,br,cY,dX,fD,fc,dF,dO,dV,dJ,dw,dr,nf,g6,h1]
end Go.Ab
namespace Go.Ab
open Go.Proofs.Tryz
def H7 (a b:RV):Int:=if jl a < jl b then -1 else if jl a > jl b then 1 else jl a * gW (a.num.v * b.den.v) (b.num.v * a.den.v)
theorem qpF (r:RV):jl r=-1\/jl r=0\/jl r=1:=by
 unfold jl
 split
 ·exact .inr (.inl rfl)
 ·split
  ·exact .inl rfl
  ·exact .inr (.inr rfl)
theorem qk5 (a b:Nat):gW a b=-1\/gW a b=0\/gW a b=1:=by
 unfold gW
 split
 ·exact .inl rfl
 ·split
  ·exact .inr (.inr rfl)
  ·exact .inr (.inl rfl)
theorem UK (a b:Nat):gW a b=0↔a=b:=by
 unfold gW
 split
 ·constructor
  ·intro h;cases h
  ·intro h;omega
 ·split
  ·constructor
   ·intro h;cases h
   ·intro h;omega
  ·constructor
   ·intro _;omega
   ·intro _;rfl
theorem qnl {a b:Int} (ha:a=-1\/a=0\/a=1) (hb:b=-1\/b=0\/b=1):ag .other .mul (.int .i64 a) (.int .i64 b)=some (.int .i64 (a * b)):=by
 rcases ha with rfl | rfl | rfl<;>rcases hb with rfl | rfl | rfl<;>rfl
theorem qhn {a b:RV} {k:Nat} (ha:ROk k a) (hb:ROk k b) (fa:a.fr=a) (fb:b.fr=b) (hk1:1<=k) (hk:k < 2 ^ 36):AP ae 153 [a.av,b.av]=some (.int .i64 (H7 a b)):=by
 have fan:a.num.fr=a.num:=cI RV.num fa;have fad:a.den.fr=a.den:=cI RV.den fa;have fbn:b.num.fr=b.num:=cI RV.num fb;have fbd:b.den.fr=b.den:=cI RV.den fb;have l1:(aD (a.num.v * b.den.v)).length < 2 ^ 40:=jJ (oS (ef ha.num.v_len ha.ln) (ef hb.den.v_len hb.ld)) (by omega);have l2:(aD (b.num.v * a.den.v)).length < 2 ^ 40:=jJ (oS (ef hb.num.v_len hb.ln) (ef ha.den.v_len ha.ld)) (by omega);have e1:=yo ha.num hb.den;have e2:=yo hb.num ha.den;have e3:=wu (x:=⟨false,.no,aD (a.num.v * b.den.v)⟩) (y:=⟨false,.no,aD (b.num.v * a.den.v)⟩) (um l1) (um l2);have v1:NV.v ⟨false,.no,aD (a.num.v * b.den.v)⟩=a.num.v * b.den.v:=gz _;have v2:NV.v ⟨false,.no,aD (b.num.v * a.den.v)⟩=b.num.v * a.den.v:=gz _;rw[v1,v2] at e3;have q1:∀ (d:Option Nat) (mm:af),aC (AP ae) d mm 129 [a.av]=some (.int .i64 (jl a),mm):=fun d mm=>by rw[dJ,fa,HL ha];rfl
 have q2:∀ (d:Option Nat) (mm:af),aC (AP ae) d mm 129 [b.av]=some (.int .i64 (jl b),mm):=fun d mm=>by rw[dJ,fb,HL hb];rfl
 have q3:∀ (d:Option Nat) (mm:af),aC (AP ae) d mm 127 [a.num.av,b.den.av]=some (NV.av ⟨false,.no,aD (a.num.v * b.den.v)⟩,mm):=fun d mm=>by rw[dO,fan,fbd,e1];rfl
 have q4:∀ (d:Option Nat) (mm:af),aC (AP ae) d mm 127 [b.num.av,a.den.av]=some (NV.av ⟨false,.no,aD (b.num.v * a.den.v)⟩,mm):=fun d mm=>by rw[dO,fbn,fad,e2];rfl
 have q5:∀ (d:Option Nat) (mm:af),aC (AP ae) d mm 131 [NV.av ⟨false,.no,aD (a.num.v * b.den.v)⟩,NV.av ⟨false,.no,aD (b.num.v * a.den.v)⟩]=some (.int .i64 (gW (a.num.v * b.den.v) (b.num.v * a.den.v)),mm):=fun d mm=>by
  rw[dO,show NV.fr ⟨false,.no,aD (a.num.v * b.den.v)⟩=⟨false,.no,aD (a.num.v * b.den.v)⟩ from rfl,show NV.fr ⟨false,.no,aD (b.num.v * a.den.v)⟩=⟨false,.no,aD (b.num.v * a.den.v)⟩ from rfl,e3];rfl
 refine cM _ _ (fW _ _) rfl (m:=[cR a,cR b]) ?_;rw[qgM,dk,aa,dk,aa];simp only[aQ,bQ,aL,b8,br];rw[B6 (x:=a) rfl,aa,q1,aa,B6 (x:=b) rfl,aa,q2,aa,bc,aa,aA];unfold H7
 by_cases c1:jl a < jl b
 ·rw[an c1,an c1]
 ·rw[aj c1,aj c1,gY,aa,aA]
  by_cases c2:jl a > jl b
  ·rw[an c2,an c2]
  ·rw[aj c2,aj c2,dh,aa,Zd (x:=a) rfl,aa,dc,aa,Ze (x:=b) rfl,aa,q3,aa,dh,aa,Zd (x:=b) rfl,aa,dc,aa,Ze (x:=a) rfl,aa,q4,aa,q5,aa,qnl (qpF a) (qk5 _ _),aa]
theorem Zx (neg:Bool) (n:Nat):fP neg n=if neg then -(n:Int) else n:=by cases neg<;>rfl
theorem qk4 (a b:RV):H7 a b=0↔a.q=b.q:=by
 have key:∀ r:RV,(jl r=0/\r.q=0)\/(r.num.v≠0/\r.den.v≠0/\r.q≠0/\jl r=if r.neg then -1 else 1):=by
  intro r
  by_cases h:r.num.v=0\/r.den.v=0
  ·left;refine ⟨by unfold jl;rw[an h],?_⟩
   rcases h with h | h
   ·rw[RV.q,h,xy]
   ·rw[RV.q,h,zK]
  ·right;refine ⟨fun e=>h (.inl e),fun e=>h (.inr e),?_,by unfold jl;rw[aj h]⟩;intro e;have hd:r.den.v≠0:=fun e=>h (.inr e)
   have:fP r.neg r.num.v=0:=by
    have e':mkRat (fP r.neg r.num.v) r.den.v=0:=e;exact (Rat.mkRat_eq_zero hd).1 e'
   have h2:(fP r.neg r.num.v).natAbs=0:=by rw[this];rfl
   rw[B8] at h2;exact h (.inl h2)
 unfold H7
 rcases key a with ⟨a1,a2⟩ | ⟨a1,a2,a3,a4⟩
 ·rcases key b with ⟨b1,b2⟩ | ⟨b1,b2,b3,b4⟩
  ·rw[a1,b1,a2,b2];simp
  ·rw[a1,a2]
   constructor
   ·intro h;rw[b4] at h;by_cases hb:b.neg=true<;>simp[hb] at h
   ·intro h;exact absurd h.symm b3
 ·rcases key b with ⟨b1,b2⟩ | ⟨b1,b2,b3,b4⟩
  ·rw[b1,b2]
   constructor
   ·intro h;rw[a4] at h;by_cases hb:a.neg=true<;>simp[hb] at h
   ·intro h;exact absurd h a3
  ·have hq:a.q=b.q↔fP a.neg a.num.v * (b.den.v:Int)=fP b.neg b.num.v * (a.den.v:Int):=Rat.mkRat_eq_iff a2 b2;rw[hq,a4,b4,Zx,Zx];have p1:0 < a.num.v * b.den.v:=Nat.mul_pos (by omega) (by omega);have p2:0 < b.num.v * a.den.v:=Nat.mul_pos (by omega) (by omega);have p1':(a.num.v:Int) * (b.den.v:Int)=((a.num.v * b.den.v:Nat):Int):=(rX _ _).symm;have p2':(b.num.v:Int) * (a.den.v:Int)=((b.num.v * a.den.v:Nat):Int):=(rX _ _).symm
   cases a.neg<;>cases b.neg
   ·simp only[j6,mo,p1',p2'];rw[aj (by omega),aj (by omega),Int.one_mul,UK];omega
   ·simp only[j6,mo,bz,Int.neg_mul,p1',p2'];rw[aj (by omega),an (by omega)];omega
   ·simp only[j6,mo,bz,Int.neg_mul,p1',p2'];rw[an (by omega)];omega
   ·simp only[bz,Int.neg_mul,p1',p2'];rw[aj (by omega),aj (by omega),Int.one_mul,Int.neg_eq_zero,UK];omega
theorem qhc {a b:RV} {k:Nat} (ha:ROk k a) (hb:ROk k b) (fa:a.fr=a) (fb:b.fr=b) (hk1:1<=k) (hk:k < 2 ^ 36):AP ae 113 [a.av,b.av]=some (.bool (decide (a.q=b.q))):=by
 have e:=qhn ha hb fa fb hk1 hk;refine cM (.bool (decide (a.q=b.q))) (.bool (decide (a.q=b.q))) (fun _=>rfl) rfl (m:=[cR a,cR b]) ?_;rw[qgn,dk,aa,dk,aa];simp only[aQ,bQ,aL,b8,br];rw[B6 (x:=a) rfl,aa,B6 (x:=b) rfl,aa,dw,fa,fb,e,aS,aa,iM,aa];rw[jL.2 (qk4 a b)]
theorem BS (m:af):az none m (.obj true [.bool false,aq,aq])=(m.length,m++[cR zR]):=rfl
theorem SX {n:Nat} (h:n < 9223372036854775808):AP ae 154 [.int .i64 (n:Int)]=some (.tup [(bK n).av,.bool false]):=by
 refine cM _ _ (u7 (vc n) (Nh false)) rfl (m:=[]) ?_;rw[qgN,Jk,aa,oP,AZ (by omega),aa,dF,Dv (by omega)];rfl
theorem qhd {a b:Nat} (ha:a < 9223372036854775808) (hb:b < 9223372036854775808) (h0:b≠0):∃ r:RV,AP ae 116 [.int .i64 (a:Int),.int .i64 (b:Int)]=some (.tup [r.av,.int .i64 0])/\Can r (dK false a b)/\r.fr=r:=by
 have la:(aD a).length<=2:=nN (by omega);have lb:(aD b).length<=2:=nN (by omega)
 rcases HP false (ik (n:=a) (by omega)) (ik (n:=b) (by omega)) (by rw[fO];omega) (by rw[fO];omega) with ⟨h,_⟩ | ⟨_,r,e,h2,h3⟩
 ·rw[fO] at h;exact absurd h h0
 ·rw[fO,fO] at h2;refine ⟨r,(cM _ _ (A9 r (jX .i64 0)) rfl (m:=[cR r]) ?_).trans (by rw[h3]),h2,h3⟩;rw[qgp];simp only[Nat.reduceAdd,aa,aS,dk,dZ,cX,dP,dI,dL,dM,ee,dS,aL,aQ,bQ,dF,dV,SX ha,SX hb,jQ,bne_self_eq_false,e]
end Go.Ab
namespace Go.Ab
noncomputable section
open Go.Proofs.Tryz
def K3 (x1 x3:AV) (m:af):St:=⟨(aG (x1::aG (x3::bp (aO [])))),m⟩
def Hw (x2:AV) (m:af):St:=⟨(aJ (x2::bp (aO (aG [])))),m⟩
def Gv (x1 x3 nG rP Cp:AV) (m:af) (K:KT):OM:=bX 112 (b6 (c2 (c2 (c2 (aB f112))))) 5 (aG (x1::aG (x3::bA (nG::rP::Cp::bA (aG []))))) m K
abbrev qba (K:KT):KT:=bF 112 (bm (aB f112)) K
abbrev qbb (K:KT):KT:=bu 0 (qba K)
abbrev FQ (K:KT):KT:=(qbb K)
theorem qgm (a0:AV) (m:af):AC ae 112 [a0] m=(cS none (some 4) m a0).bind fun r1=>(aP 0 r1.1).bind fun v2=>(ai none r1.2 v2).bind fun v3=>(aK false v3).bind fun v4=>(ag .other .gtr v4 (.int .i64 16)).bind fun v5=>aw v5 (some ((.bool false),r1.2)) ((aP 3 r1.1).bind fun v6=>(ai none r1.2 v6).bind fun v7=>(ag .other .lss v7 (.int .i64 0)).bind fun v8=>aw v8 (some ((.bool false),r1.2)) ((aP 3 r1.1).bind fun v9=>(ai none r1.2 v9).bind fun v10=>(ag .other .gtr v10 (.int .i64 2147483647)).bind fun v11=>aw v11 (some ((.bool false),r1.2)) ((aP 1 r1.1).bind fun v12=>(ai none r1.2 v12).bind fun bh=>(aK false bh).bind fun bg=>(ag .other .gtr bg (.int .i64 4000)).bind fun bo=>aw bo (some ((.bool false),r1.2)) ((aP 2 r1.1).bind fun bL=>(ai none r1.2 bL).bind fun bD=>(aK false bD).bind fun dQ=>(aP 1 r1.1).bind fun c8=>(ai none r1.2 c8).bind fun v20=>(aK false v20).bind fun v21=>(ag .other .neq dQ v21).bind fun v22=>aw v22 (some ((.bool false),r1.2)) ((aP 0 r1.1).bind fun v23=>(ai none r1.2 v23).bind fun v24=>(aK false v24).bind fun v25=>Gv r1.1 (.lst none true .full []) v24 v25 (.int .i64 0) r1.2 (FQ (aE ae.P f112.results.toList))))))):=
(bj ae 112 [a0] m (fn:=f112) (c:=aB f112) qiJ rfl).trans (by kernel_rfl)
theorem QQ (x1 x3 nG rP Cp:AV) (m:af) (K:KT):Gv x1 x3 nG rP Cp m K=(ag .other .lss Cp rP).bind fun v1=>aw v1 ((aF none nG Cp).bind fun v2=>(ai none m v2).bind fun v3=>(aK false v3).bind fun v4=>(ag .other .lss v4 (.int .i64 1)).bind fun v5=>aw v5 (K .ret (Hw (.bool false) m)) ((aK false v3).bind fun v6=>(ag .other .gtr v6 (.int .i64 64)).bind fun v7=>aw v7 (K .ret (Hw (.bool false) m)) ((aK false v3).bind fun v8=>(dH none [v8]).bind fun v9=>(ck none false 3 none 8 m x3 v9).bind fun ij=>(ag .other .add Cp (.int .i64 1)).bind fun v11=>Gv x1 ij.1 nG rP v11 ij.2 K))) (K (.exit 0) (K3 x1 x3 m)):=
(bW (bP _) _ _ _).trans (by kernel_rfl)
theorem qbd (x1 x3:AV) (m:af):FQ (aE ae.P f112.results.toList) (.exit 0) (K3 x1 x3 m)=(aP 0 x1).bind fun v1=>(ai none m v1).bind fun v2=>(aC (AP ae) none m 63 [x3,v2]).bind fun r3=>aw r3.1 ((aP 1 x1).bind fun v4=>(ai none r3.2 v4).bind fun v5=>(aC (AP ae) none r3.2 107 [x3,v5]).bind fun r6=>aw r6.1 ((aP 2 x1).bind fun v7=>(ai none r6.2 v7).bind fun v8=>(aC (AP ae) none r6.2 150 [v8,(.fn 151 [])]).bind fun r9=>(jn .not r9.1).bind fun v10=>some (v10,r9.2)) (some ((.bool false),r6.2))) (some ((.bool false),r3.2)):=by kernel_rfl
theorem qbc (x2:AV) (m:af):FQ (aE ae.P f112.results.toList) .ret (Hw x2 m)=some (x2,m):=by kernel_rfl
def Hl (x8 x9:AV) (m:af):St:=⟨(aX (x8::x9::bA (aO []))),m⟩
def Am (x0 x3 x5 x8 x9 b9 cB iL:AV) (m:af) (K:KT):OM:=bX 110 (b6 (c2 (c2 (c2 (aB f110))))) 7 (x0::aJ (x3::aG (x5::aJ (x8::x9::aX (aO (aG (b9::cB::iL::bw (aO [])))))))) m K
abbrev qa2 (K:KT):KT:=bF 110 (bm (aB f110)) K
abbrev qa3 (K:KT):KT:=bu 0 (qa2 K)
abbrev CA (K:KT):KT:=(qa3 K)
theorem SA (a0 a1 a2 a3:AV) (m:af):AC ae 110 [a0,a1,a2,a3] m=(cS none (some 3) m a1).bind fun r1=>(aP 0 r1.1).bind fun v2=>(ai none (az none r1.2 (.obj true [(.bool false),(.lst none true .full []),(.lst none true .full [])])).2 v2).bind fun v3=>(ag .other .lss v3 (.int .i64 0)).bind fun v4=>aw v4 ((aP 2 r1.1).bind fun v5=>(ai none (az none r1.2 (.obj true [(.bool false),(.lst none true .full []),(.lst none true .full [])])).2 v5).bind fun v6=>(ag .other .eql v6 a2).bind fun v7=>aw v7 ((aC (AP ae) none (az none r1.2 (.obj true [(.bool false),(.lst none true .full []),(.lst none true .full [])])).2 64 []).bind fun r8=>(aM (some 3) r8.2 (.ptr (az none r1.2 .resv).1 0) r8.1).bind fun m9=>(ai (some 3) m9 (.ptr (az none r1.2 .resv).1 0)).bind fun v10=>some (v10,m9)) ((aC (AP ae) none (az none r1.2 (.obj true [(.bool false),(.lst none true .full []),(.lst none true .full [])])).2 114 []).bind fun jE=>(aM (some 3) jE.2 (.ptr (az none r1.2 .resv).1 0) jE.1).bind fun m12=>(ai (some 3) m12 (.ptr (az none r1.2 .resv).1 0)).bind fun bh=>some (bh,m12))) ((aC (AP ae) none (az none r1.2 (.obj true [(.bool false),(.lst none true .full []),(.lst none true .full [])])).2 114 []).bind fun jP=>(aM (some 3) (az none jP.2 (.obj true [(.bool false),(.lst none true .full []),(.lst none true .full [])])).2 (.ptr (az none jP.2 .resv).1 0) jP.1).bind fun m15=>(aP 1 r1.1).bind fun bL=>(ai none m15 bL).bind fun bD=>(aK false bD).bind fun dQ=>Am a0 a3 r1.1 (.ptr (az none r1.2 .resv).1 0) (.ptr (az none jP.2 .resv).1 0) bD dQ (.int .i64 0) m15 (CA (aE ae.P f110.results.toList))):=
(bj ae 110 [a0,a1,a2,a3] m (fn:=f110) (c:=aB f110) qiH rfl).trans (by kernel_rfl)
theorem Gu (x0 x3 x5 x8 x9 b9 cB iL:AV) (m:af) (K:KT):Am x0 x3 x5 x8 x9 b9 cB iL m K=(ag .other .lss iL cB).bind fun v1=>aw v1 ((aF none b9 iL).bind fun v2=>(ai none m v2).bind fun v3=>(ai (some 3) m x9).bind fun v4=>(aP 0 x5).bind fun v5=>(ai none m v5).bind fun v6=>(aF none x0 v6).bind fun v7=>(ai none m v7).bind fun v8=>(aC (AP ae) (some m.length) m 70 [v8,iL]).bind fun r9=>(aF (some 3) x3 v3).bind fun v10=>(ai (some 3) r9.2 v10).bind fun v11=>(aC (AP ae) (some m.length) r9.2 69 [r9.1,v11]).bind fun gF=>(aC (AP ae) (some m.length) gF.2 71 [v4,gF.1]).bind fun gh=>(aM (some 3) gh.2 x9 gh.1).bind fun m14=>(ag .other .add iL (.int .i64 1)).bind fun bo=>Am x0 x3 x5 x8 x9 b9 cB bo m14 K) (K (.exit 0) (Hl x8 x9 m)):=
(bW (bP _) _ _ _).trans (by kernel_rfl)
theorem Qz (x8 x9:AV) (m:af):CA (aE ae.P f110.results.toList) (.exit 0) (Hl x8 x9 m)=(ai (some 3) m x9).bind fun v1=>(aM (some 3) m x8 v1).bind fun m2=>(ai (some 3) m2 x8).bind fun v3=>some (v3,m2):=by kernel_rfl
def Hk (x1:AV) (m:af):St:=⟨(aG (x1::bp (bw (aX (aJ []))))),m⟩
def tF (x4:AV) (m:af):St:=⟨(aO (x4::bp (bw (aO (aJ (aG [])))))),m⟩
def uG (x0 x1 x9 aH aY:AV) (m:af) (K:KT):OM:=bX 107 (b6 (c2 (aB f107))) 2 (x0::x1::aO (aJ (aG (x9::aH::aY::bp (bw []))))) m K
def Hj (x0 x1 x9 aH aY:AV) (m:af):St:=⟨(x0::x1::aO (aJ (aG (x9::aH::aY::bp (bw []))))),m⟩
def Dm (x4:AV) (m:af):St:=⟨(aO (x4::bp (bw (aO (aJ (aG [])))))),m⟩
def xZ (x0 x1 x5 x6 x9 aH aY ng rR qv:AV) (m:af) (K:KT):OM:=bX 107 (tO (l9 (l9 (c2 (c1 (c2 (aB f107))))))) 10 (x0::x1::aJ (aG (x5::x6::aJ (x9::aH::aY::bA (aX (aO (ng::rR::qv::bA (aG [])))))))) m K
abbrev qaP (K:KT):KT:=bF 107 (c2 (c2 (aB f107))) K
abbrev qaQ (K:KT):KT:=bu 0 (qaP K)
abbrev tw (K:KT):KT:=(qaQ K)
abbrev qaM (K:KT):KT:=bF 107 (lE (np (aB f107))) (nY 107 (b6 (c2 (aB f107))) 2 K)
abbrev qaN (K:KT):KT:=bu 1 (qaM K)
abbrev qaO (K:KT):KT:=bu 2 (qaN K)
abbrev Aj (K:KT):KT:=(qaO K)
theorem Sz (a0 a1:AV) (m:af):AC ae 107 [a0,a1] m=(aK false a1).bind fun v1=>uG a0 a1 a1 v1 (.int .i64 0) m (tw (aE ae.P f107.results.toList)):=
(bj ae 107 [a0,a1] m (fn:=f107) (c:=aB f107) qiD rfl).trans (by kernel_rfl)
theorem Gt (x0 x1 x9 aH aY:AV) (m:af) (K:KT):uG x0 x1 x9 aH aY m K=(ag .other .lss aY aH).bind fun v1=>aw v1 ((aF (some 3) x9 aY).bind fun v2=>(ai (some 3) m v2).bind fun v3=>(aM (some 3) (az none m (.obj true [(.int .i64 0),(.lst none true .full []),(.int .i64 0)])).2 (.ptr (az none m .resv).1 0) v3).bind fun m4=>(aP 0 (.ptr (az none m .resv).1 0)).bind fun v5=>(ai none m4 v5).bind fun v6=>(ag .other .eql v6 (.int .i64 (-1))).bind fun v7=>aw v7 ((aP 1 (.ptr (az none m .resv).1 0)).bind fun v8=>(ai none m4 v8).bind fun v9=>(aK false v9).bind fun v10=>(ag .other .gtr v10 (.int .i64 0)).bind fun v11=>aw v11 (K .ret (tF (.bool false) m4)) ((aP 2 (.ptr (az none m .resv).1 0)).bind fun v12=>(ai none m4 v12).bind fun bh=>(aC (AP ae) none m4 94 [bh]).bind fun jP=>(jn .not jP.1).bind fun bo=>aw bo (K .ret (tF (.bool false) jP.2)) ((ag .other .add aY (.int .i64 1)).bind fun bL=>uG x0 x1 x9 aH bL jP.2 K))) ((aP 0 (.ptr (az none m .resv).1 0)).bind fun bD=>(ai none m4 bD).bind fun dQ=>(ag .other .lss dQ (.int .i64 0)).bind fun c8=>aw c8 (K .ret (tF (.bool false) m4)) ((aP 0 (.ptr (az none m .resv).1 0)).bind fun v20=>(ai none m4 v20).bind fun v21=>(aK false x0).bind fun v22=>(ag .other .geq v21 v22).bind fun v23=>aw v23 (K .ret (tF (.bool false) m4)) ((aP 2 (.ptr (az none m .resv).1 0)).bind fun v24=>(ai none m4 v24).bind fun v25=>(ag .other .neq v25 (.int .i64 0)).bind fun v26=>aw v26 (K .ret (tF (.bool false) m4)) ((aP 1 (.ptr (az none m .resv).1 0)).bind fun jt=>(ai none m4 jt).bind fun v28=>(aK false v28).bind fun jS=>(aP 0 (.ptr (az none m .resv).1 0)).bind fun v30=>(ai none m4 v30).bind fun v31=>(aF none x0 v31).bind fun lW=>(ai none m4 lW).bind fun oV=>(ag .other .neq jS oV).bind fun pW=>aw pW (K .ret (tF (.bool false) m4)) ((aP 1 (.ptr (az none m .resv).1 0)).bind fun mG=>(ai none m4 mG).bind fun tj=>(aK false tj).bind fun v37=>xZ x0 x1 aY (.ptr (az none m .resv).1 0) x9 aH aY tj v37 (.int .i64 0) m4 (Aj K))))))) (K (.exit 0) (Hk x1 m)):=
(bW (bP _) _ _ _).trans (by kernel_rfl)
theorem Gs (x0 x1 x5 x6 x9 aH aY ng rR qv:AV) (m:af) (K:KT):xZ x0 x1 x5 x6 x9 aH aY ng rR qv m K=(ag .other .lss qv rR).bind fun v1=>aw v1 ((aF none ng qv).bind fun v2=>(ai none m v2).bind fun v3=>(ag .other .lss v3 (.int .i64 0)).bind fun v4=>aw v4 (K .ret (Dm (.bool false) m)) ((ag .other .geq v3 x5).bind fun v5=>aw v5 (K .ret (Dm (.bool false) m)) ((aF (some 3) x1 v3).bind fun v6=>(aP 0 v6).bind fun v7=>(ai none m v7).bind fun v8=>(ag .other .geq v8 (.int .i64 0)).bind fun v9=>aw v9 ((aF (some 3) x1 v3).bind fun v10=>(aP 0 v10).bind fun v11=>(ai none m v11).bind fun v12=>(aP 0 x6).bind fun bh=>(ai none m bh).bind fun bg=>(ag .other .leq v12 bg).bind fun bo=>aw bo (K .ret (Dm (.bool false) m)) ((ag .other .add qv (.int .i64 1)).bind fun bL=>xZ x0 x1 x5 x6 x9 aH aY ng rR bL m K)) ((ag .other .add qv (.int .i64 1)).bind fun bD=>xZ x0 x1 x5 x6 x9 aH aY ng rR bD m K)))) (K (.exit 2) (Hj x0 x1 x9 aH aY m)):=
(bW (bP _) _ _ _).trans (by kernel_rfl)
theorem Qy (x1:AV) (m:af):tw (aE ae.P f107.results.toList) (.exit 0) (Hk x1 m)=(aK false x1).bind fun v1=>(ag .other .gtr v1 (.int .i64 0)).bind fun v2=>some (v2,m):=by kernel_rfl
theorem tz (x4:AV) (m:af):tw (aE ae.P f107.results.toList) .ret (tF x4 m)=some (x4,m):=by kernel_rfl
theorem Qx (x0 x1 x9 aH aY:AV) (m:af) (K:KT):Aj K (.exit 2) (Hj x0 x1 x9 aH aY m)=(ag .other .add aY (.int .i64 1)).bind fun v1=>uG x0 x1 x9 aH v1 m K:=by kernel_rfl
theorem FM (x4:AV) (m:af) (K:KT):Aj K .ret (Dm x4 m)=K .ret (tF x4 m):=by kernel_rfl
theorem qgJ (a0 a1:AV) (m:af):AC ae 150 [a0,a1] m=(aC (AP ae) none m 180 [a0,a1]).bind fun r1=>(ag .other .geq r1.1 (.int .i64 0)).bind fun v2=>some (v2,r1.2):=
(bj ae 150 [a0,a1] m (fn:=f150) (c:=aB f150) qjd rfl).trans (by kernel_rfl)
theorem qgK (a0:AV) (m:af):AC ae 151 [a0] m=(cS none (some 3) m a0).bind fun r1=>(ai (some 3) r1.2 r1.1).bind fun v2=>(aC (AP ae) none r1.2 152 [v2]).bind fun r3=>(jn .not r3.1).bind fun v4=>some (v4,r3.2):=
(bj ae 151 [a0] m (fn:=f151) (c:=aB f151) qje rfl).trans (by kernel_rfl)
def Dj (m:af):St:=⟨(bw (aJ (aG []))),m⟩
def AQ (x4:AV) (m:af):St:=⟨(aO (x4::aX (aO (aJ [])))),m⟩
def Au (x0 x1 x7 x8:AV) (m:af) (K:KT):OM:=bX 180 (b6 (c2 (aB f180))) 2 (x0::x1::aO (aG (x7::x8::aX (aJ [])))) m K
abbrev qdi (K:KT):KT:=bF 180 (c2 (c2 (aB f180))) K
abbrev qdj (K:KT):KT:=bu 0 (qdi K)
abbrev F7 (K:KT):KT:=(qdj K)
theorem SJ (a0 a1:AV) (m:af):AC ae 180 [a0,a1] m=(aK false a0).bind fun v1=>Au a0 a1 v1 (.int .i64 0) m (F7 (aE ae.P f180.results.toList)):=
(bj ae 180 [a0,a1] m (fn:=f180) (c:=aB f180) qjx rfl).trans (by kernel_rfl)
theorem Rp (x0 x1 x7 x8:AV) (m:af) (K:KT):Au x0 x1 x7 x8 m K=(ag .other .lss x8 x7).bind fun v1=>aw v1 ((aF (some 3) x0 x8).bind fun v2=>(ai (some 3) m v2).bind fun v3=>(lH x1).bind fun g4=>j7 ae 180 (AP ae) (AC ae) none g4.1 ([v3]++g4.2) m fun v5 m6=>aw v5 (K .ret (AQ x8 m6)) ((ag .other .add x8 (.int .i64 1)).bind fun v7=>Au x0 x1 x7 v7 m6 K)) (K (.exit 0) (Dj m)):=
(bW (bP _) _ _ _).trans (by kernel_rfl)
theorem qdl (m:af):F7 (aE ae.P f180.results.toList) (.exit 0) (Dj  m)=some ((.int .i64 (-1)),m):=by kernel_rfl
theorem qdk (x4:AV) (m:af):F7 (aE ae.P f180.results.toList) .ret (AQ x4 m)=some (x4,m):=by kernel_rfl
def LK (x1 x2:AV) (m:af):St:=⟨(aG (x1::x2::bA (aX (aO [])))),m⟩
def HA (x2 x3 x4:AV) (m:af):St:=⟨(aJ (x2::x3::x4::bA (aX (aJ [])))),m⟩
def Ay (x1 x2 aN aV aW:AV) (m:af) (K:KT):OM:=bX 53 (b6 (c2 (c2 (aB f53)))) 4 (aG (x1::x2::aX (aG (aN::aV::aW::bA [])))) m K
abbrev qeQ (K:KT):KT:=bF 53 (c2 (c2 (c2 (aB f53)))) K
abbrev qeR (K:KT):KT:=bu 0 (qeQ K)
abbrev Gk (K:KT):KT:=(qeR K)
theorem T53 (a0:AV) (m:af):AC ae 53 [a0] m=(cS none (some 4) m a0).bind fun r1=>(ai (some 4) (az none r1.2 (.obj true [(.bool false),(.lst none true .full []),(.lst none true .full [])])).2 r1.1).bind fun v2=>(aC (AP ae) none (az none r1.2 (.obj true [(.bool false),(.lst none true .full []),(.lst none true .full [])])).2 112 [v2]).bind fun r3=>(jn .not r3.1).bind fun v4=>aw v4 ((fU (.agg [(.bool false),(.lst none true .full []),(.lst none true .full [])]) []).bind fun v5=>(aM (some 3) r3.2 (.ptr (az none r1.2 .resv).1 0) v5).bind fun m6=>(ai (some 3) m6 (.ptr (az none r1.2 .resv).1 0)).bind fun v7=>some ((.tup [v7,(.int .i64 0),(.int .i64 1)]),m6)) ((aP 1 r1.1).bind fun v8=>(ai none r3.2 v8).bind fun v9=>(aK false v9).bind fun v10=>Ay r1.1 (.ptr (az none r1.2 .resv).1 0) v9 v10 (.int .i64 0) r3.2 (Gk (aE ae.P f53.results.toList))):=
(bj ae 53 [a0] m (fn:=f53) (c:=aB f53) qj2 rfl).trans (by kernel_rfl)
theorem RM (x1 x2 aN aV aW:AV) (m:af) (K:KT):Ay x1 x2 aN aV aW m K=(ag .other .lss aW aV).bind fun v1=>aw v1 ((aF (some 3) aN aW).bind fun v2=>(ai (some 3) m v2).bind fun v3=>(aM (some 3) (az none m (.obj true [(.int .i64 0),(.lst none true .full []),(.int .i64 0)])).2 (.ptr (az none m .resv).1 0) v3).bind fun m4=>(aP 2 x1).bind fun v5=>(ai none m4 v5).bind fun v6=>(aF (some 3) v6 aW).bind fun v7=>(ai (some 3) m4 v7).bind fun v8=>(aP 0 x1).bind fun v9=>(ai none m4 v9).bind fun v10=>(ai (some 3) m4 (.ptr (az none m .resv).1 0)).bind fun v11=>(aP 3 x1).bind fun v12=>(ai none m4 v12).bind fun bh=>(aP 2 x1).bind fun bg=>(ai none m4 bg).bind fun bo=>(aC (AP ae) (some m4.length) m4 110 [v10,v11,bh,bo]).bind fun fJ=>(aC (AP ae) (some m4.length) fJ.2 113 [v8,fJ.1]).bind fun vO=>(jn .not vO.1).bind fun dQ=>aw dQ ((fU (.agg [(.bool false),(.lst none true .full []),(.lst none true .full [])]) []).bind fun c8=>(aM (some 3) vO.2 x2 c8).bind fun m20=>K .ret (HA x2 aW (.int .i64 32) m20)) ((ag .other .add aW (.int .i64 1)).bind fun v21=>Ay x1 x2 aN aV v21 vO.2 K)) (K (.exit 0) (LK x1 x2 m)):=
(bW (bP _) _ _ _).trans (by kernel_rfl)
theorem qeT (x1 x2:AV) (m:af):Gk (aE ae.P f53.results.toList) (.exit 0) (LK x1 x2 m)=(aP 2 x1).bind fun v1=>(ai none m v1).bind fun v2=>(aP 2 x1).bind fun v3=>(ai none m v3).bind fun v4=>(aK false v4).bind fun v5=>(ag .other .sub v5 (.int .i64 1)).bind fun v6=>(aF (some 3) v2 v6).bind fun v7=>(ai (some 3) m v7).bind fun v8=>(aC (AP ae) (some m.length) m 114 []).bind fun r9=>(aC (AP ae) (some m.length) r9.2 71 [v8,r9.1]).bind fun ij=>(aM (some 3) ij.2 x2 ij.1).bind fun m11=>(ai (some 3) m11 x2).bind fun v12=>some ((.tup [v12,(.int .i64 0),(.int .i64 0)]),m11):=by kernel_rfl
theorem qeS (x2 x3 x4:AV) (m:af):Gk (aE ae.P f53.results.toList) .ret (HA x2 x3 x4 m)=(ai (some 3) m x2).bind fun v1=>some ((.tup [v1,x3,x4]),m):=by kernel_rfl
end
end Go.Ab
namespace Go.Ab
noncomputable section
open Go.Proofs.Tryz
def LL (m:af):St:=⟨(bA (bw (aJ []))),m⟩
def Dp (x4:AV) (m:af):St:=⟨(aO (x4::bA (aX (aO (aG []))))),m⟩
def G4 (x0 di bT dN:AV) (m:af) (K:KT):OM:=bX 63 (b6 (c2 (c2 (aB f63)))) 4 (x0::aX (aO (aJ (di::bT::dN::bA [])))) m K
def LM (x0 x5 x6 x7 di bT dN:AV) (m:af):St:=⟨(x0::aO (x5::x6::x7::aO (aJ (aG (di::bT::dN::bA []))))),m⟩
def HB (x4:AV) (m:af):St:=⟨(aO (x4::bA (aX (aO (aG []))))),m⟩
def G5 (x0 x5 x6 x7 di bT dN b7 b9 cB:AV) (m:af) (K:KT):OM:=bX 63 (b6 (l9 (l9 (p7 (aB f63))))) 8 (x0::aO (x5::x6::x7::aO (aJ (aG (di::bT::dN::aO (b7::b9::cB::bw (aX (aG [])))))))) m K
abbrev qeX (K:KT):KT:=bF 63 (c2 (c2 (c2 (aB f63)))) K
abbrev qeY (K:KT):KT:=bu 0 (qeX K)
abbrev KL (K:KT):KT:=(qeY K)
abbrev qe1 (K:KT):KT:=bF 63 (lE (np (c2 (aB f63)))) (nY 63 (b6 (c2 (c2 (aB f63)))) 4 K)
abbrev qe2 (K:KT):KT:=bu 1 (qe1 K)
abbrev qe3 (K:KT):KT:=bF 63 (lE (A4 (np (c2 (aB f63))))) (qe2 K)
abbrev qe4 (K:KT):KT:=bu 2 (qe3 K)
abbrev Gl (K:KT):KT:=(qe4 K)
theorem T63 (a0 a1:AV) (m:af):AC ae 63 [a0,a1] m=(aK false a1).bind fun v1=>(aK false a0).bind fun v2=>(ag .other .neq v1 v2).bind fun v3=>aw v3 (some ((.bool false),m)) ((aK false a1).bind fun v4=>G4 a0 a1 v4 (.int .i64 0) m (KL (aE ae.P f63.results.toList))):=
(bj ae 63 [a0,a1] m (fn:=f63) (c:=aB f63) qj5 rfl).trans (by kernel_rfl)
theorem RP (x0 di bT dN:AV) (m:af) (K:KT):G4 x0 di bT dN m K=(ag .other .lss dN bT).bind fun v1=>aw v1 ((aF none di dN).bind fun v2=>(ai none m v2).bind fun v3=>(aK false v3).bind fun v4=>G5 x0 dN v3 (.int .i64 0) di bT dN v3 v4 (.int .i64 0) m (Gl K)) (K (.exit 0) (LL m)):=
(bW (bP _) _ _ _).trans (by kernel_rfl)
theorem RQ (x0 x5 x6 x7 di bT dN b7 b9 cB:AV) (m:af) (K:KT):G5 x0 x5 x6 x7 di bT dN b7 b9 cB m K=(ag .other .lss cB b9).bind fun v1=>aw v1 ((aF none b7 cB).bind fun v2=>(ai none m v2).bind fun v3=>(ag .other .lss v3 (.int .i64 0)).bind fun v4=>aw v4 (K .ret (HB (.bool false) m)) ((ag .other .gtr v3 (.int .i64 1000)).bind fun v5=>aw v5 (K .ret (HB (.bool false) m)) ((ag .other .add x7 v3).bind fun v6=>(ag .other .add cB (.int .i64 1)).bind fun v7=>G5 x0 x5 x6 v6 di bT dN b7 b9 v7 m K))) (K (.exit 2) (LM x0 x5 x6 x7 di bT dN m)):=
(bW (bP _) _ _ _).trans (by kernel_rfl)
theorem qe0 (m:af):KL (aE ae.P f63.results.toList) (.exit 0) (LL  m)=some ((.bool true),m):=by kernel_rfl
theorem qeZ (x4:AV) (m:af):KL (aE ae.P f63.results.toList) .ret (Dp x4 m)=some (x4,m):=by kernel_rfl
theorem qe6 (x0 x5 x6 x7 di bT dN:AV) (m:af) (K:KT):Gl K (.exit 2) (LM x0 x5 x6 x7 di bT dN m)=(aK false x6).bind fun v1=>(aF none x0 x5).bind fun v2=>(ai none m v2).bind fun v3=>(ag .other .neq v1 v3).bind fun v4=>aw v4 (K .ret (Dp (.bool false) m)) ((ag .other .eql x7 (.int .i64 0)).bind fun v5=>aw v5 (K .ret (Dp (.bool false) m)) ((ag .other .add dN (.int .i64 1)).bind fun v6=>G4 x0 di bT v6 m K)):=by kernel_rfl
theorem qe5 (x4:AV) (m:af) (K:KT):Gl K .ret (HB x4 m)=K .ret (Dp x4 m):=by kernel_rfl
def LN (x0 x1 x4 x5:AV) (m:af):St:=⟨(x0::x1::aJ (x4::x5::bw (aX []))),m⟩
def G6 (x0 x1 x4 x5 aH aY aN:AV) (m:af) (K:KT):OM:=bX 70 (b6 (c2 (c2 (aB f70)))) 3 (x0::x1::aJ (x4::x5::aO (aH::aY::aN::bw (aG [])))) m K
abbrev qe7 (K:KT):KT:=bF 70 (c2 (c2 (c2 (aB f70)))) K
abbrev qe8 (K:KT):KT:=bu 0 (qe7 K)
abbrev KM (K:KT):KT:=(qe8 K)
theorem T70 (a0 a1:AV) (m:af):AC ae 70 [a0,a1] m=(aK false a0).bind fun v1=>G6 a0 a1 (.ptr (az none m .resv).1 0) (.int .i64 0) a0 v1 (.int .i64 0) (az none m (.obj true [(.bool false),aq,aq])).2 (KM (aE ae.P f70.results.toList)):=
(bj ae 70 [a0,a1] m (fn:=f70) (c:=aB f70) qkc rfl).trans (by kernel_rfl)
theorem RR (x0 x1 x4 x5 aH aY aN:AV) (m:af) (K:KT):G6 x0 x1 x4 x5 aH aY aN m K=(ag .other .lss aN aY).bind fun v1=>aw v1 ((aF none aH aN).bind fun v2=>(ai none m v2).bind fun v3=>(ag .other .add x5 v3).bind fun v4=>(ag .other .add aN (.int .i64 1)).bind fun v5=>G6 x0 x1 x4 v4 aH aY v5 m K) (K (.exit 0) (LN x0 x1 x4 x5 m)):=
(bW (bP _) _ _ _).trans (by kernel_rfl)
theorem qe9 (x0 x1 x4 x5:AV) (m:af):KM (aE ae.P f70.results.toList) (.exit 0) (LN x0 x1 x4 x5 m)=(aF none x0 x1).bind fun v1=>(ai none m v1).bind fun v2=>(aC (AP ae) none m 128 [v2,x5]).bind fun r3=>(aZ r3.1 0).bind fun v4=>(aZ r3.1 1).bind fun v5=>(aM (some 3) (az none r3.2 (.obj true [(.bool false),aq,aq])).2 (.ptr (az none r3.2 .resv).1 0) v4).bind fun m6=>(ai (some 3) m6 (.ptr (az none r3.2 .resv).1 0)).bind fun v7=>(aM (some 3) m6 x4 v7).bind fun m8=>(ai (some 3) m8 x4).bind fun v9=>some (v9,m8):=by kernel_rfl
theorem T67 (a0 a1 a2:AV) (m:af):AC ae 67 [a0,a1,a2] m=(ai none m a2).bind fun v1=>(ai none m a2).bind fun v2=>(AC ae 68 [v1,a0] m).bind fun r3=>pj ((ai none r3.2 a2).bind (fun v=>some (v,r3.2))=some (v2,r3.2)) ((AC ae 68 [v2,a1] r3.2).bind fun r4=>(ag .other .sub r3.1 r4.1).bind fun v5=>some (v5,r4.2)):=
(bj ae 67 [a0,a1,a2] m (fn:=f67) (c:=aB f67) qj9 rfl).trans (by kernel_rfl)
def Ln (x8 aN:AV) (m:af):St:=⟨(aX (x8::aJ (aG (aN::bp (bA (aX (aO (aJ [])))))))),m⟩
def As (x2 x3 x8 aH aN km kn j0:AV) (m:af) (K:KT):OM:=bX 17 (b6 (bm (bm (aB f17)))) 11 (aJ (x2::x3::aO (x8::aG (aH::aG (aN::bA (aO (aJ (aG (km::kn::j0::bp (aO [])))))))))) m K
def Hr (x2 x3 x8 aH aN km kn j0:AV) (m:af):St:=⟨(aJ (x2::x3::aO (x8::aG (aH::aG (aN::bA (aO (aJ (aG (km::kn::j0::bp (aO [])))))))))),m⟩
def qy (x2 x3 x8 aH aN di bT km kn j0 Cq Cr xR:AV) (m:af) (K:KT):OM:=bX 17 (tO (l9 (l9 (p7 (bm (c2 (c2 (aB f17)))))))) 17 (aJ (x2::x3::aO (x8::aG (aH::aG (aN::aJ (di::bT::bA (aJ (aG (km::kn::j0::bw (aO (aG (Cq::Cr::xR::bA (aX (aO [])))))))))))))) m K
def Lo (b7:AV) (m:af):St:=⟨(bw (aO (aJ (b7::bp (bA (aO [])))))),m⟩
def CR (aN b7 Fy FB Cm:AV) (m:af) (K:KT):OM:=bX 17 (b6 (bm (bm (c2 (c2 (aB f17)))))) 28 (aX (aO (aN::aX (aG (b7::bp (bw (aO (Fy::FB::Cm::aX (aO (aG [])))))))))) m K
abbrev qc9 (K:KT):KT:=bF 17 (bm (bm (c2 (aB f17)))) K
abbrev qda (K:KT):KT:=bu 0 (qc9 K)
abbrev FZ (K:KT):KT:=(qda K)
abbrev qdc (K:KT):KT:=bF 17 (lE (np (bm (c2 (c2 (c2 (aB f17))))))) (nY 17 (b6 (bm (bm (aB f17)))) 11 K)
abbrev qdd (K:KT):KT:=bu 1 (qdc K)
abbrev qde (K:KT):KT:=bu 2 (qdd K)
abbrev xY (K:KT):KT:=(qde K)
abbrev qdf (K:KT):KT:=bF 17 (bm (bm (c2 (c2 (c2 (aB f17)))))) K
abbrev qdg (K:KT):KT:=bu 4 (qdf K)
abbrev F3 (K:KT):KT:=(qdg K)
theorem HG (a0 a1 a2:AV) (m:af):AC ae 17 [a0,a1,a2] m=(cS none none m a0).bind fun r1=>(ai none r1.2 r1.1).bind fun v2=>(AC ae 41 [v2,a1] r1.2).bind fun r3=>(aZ r3.1 0).bind fun v4=>(aZ r3.1 1).bind fun v5=>(ag .other .neq v5 (.int .i64 0)).bind fun v6=>aw v6 (some ((.tup [aq,v5]),r3.2)) ((ai none r3.2 r1.1).bind fun v7=>(iB v7).bind fun v8=>(aP 0 v8).bind fun v9=>(ai none r3.2 v9).bind fun v10=>(aC (AP ae) none r3.2 63 [v10,a2]).bind fun jE=>(jn .not jE.1).bind fun v12=>aw v12 (some ((.tup [aq,(.int .i64 1)]),jE.2)) ((aC (AP ae) none (az none jE.2 (.mp (.int .i64) [])).2 64 []).bind fun gh=>(kU (.int .i64) gh.2 (.mref (az none jE.2 .resv).1) a1 gh.1).bind fun m14=>(ai none m14 r1.1).bind fun bo=>(AC ae 65 [bo,a1] m14).bind fun fJ=>(AC ae 66 [fJ.1,(.fn 67 [r1.1])] fJ.2).bind fun vO=>(aK false fJ.1).bind fun dQ=>As a2 r1.1 v4 (.mref (az none jE.2 .resv).1) (.mref (az none vO.2 .resv).1) fJ.1 dQ (.int .i64 0) (az none vO.2 (.mp (.int .i64) [])).2 (FZ (aE ae.P f17.results.toList)))):=
(bj ae 17 [a0,a1,a2] m (fn:=f17) (c:=aB f17) qjs rfl).trans (by kernel_rfl)
theorem Rn (x2 x3 x8 aH aN km kn j0:AV) (m:af) (K:KT):As x2 x3 x8 aH aN km kn j0 m K=(ag .other .lss j0 kn).bind fun v1=>aw v1 ((aF none km j0).bind fun v2=>(ai none m v2).bind fun v3=>(ai none (cQ m 2) x3).bind fun v4=>(iB v4).bind fun v5=>(aP 1 v5).bind fun v6=>(ai none (cQ m 2) v6).bind fun v7=>(aF (some 3) v7 v3).bind fun v8=>(ai (some 3) (cQ m 2) v8).bind fun v9=>(po (.int .i64) (.agg [(.bool false),aq,aq]) (cQ m 2) aH v3).bind fun q10=>(aM (some 3) (az (some (m.length+1)) (az (some m.length) (cQ m 2) (.obj true [(.int .i64 0),aq,(.int .i64 0)])).2 (.obj true [(.bool false),aq,aq])).2 (.ptr (az (some m.length) (cQ m 2) .resv).1 0) v9).bind fun m11=>(aM (some 3) m11 (.ptr (az (some (m.length+1)) (az (some m.length) (cQ m 2) (.obj true [(.int .i64 0),aq,(.int .i64 0)])).2 .resv).1 0) q10.1).bind fun m12=>(aP 0 (.ptr (az (some m.length) (cQ m 2) .resv).1 0)).bind fun bh=>(ai none m12 bh).bind fun bg=>(ag .other .lss bg (.int .i64 0)).bind fun bo=>aw bo ((aP 2 (.ptr (az (some m.length) (cQ m 2) .resv).1 0)).bind fun bL=>(ai none m12 bL).bind fun bD=>(ai (some 3) m12 (.ptr (az (some (m.length+1)) (az (some m.length) (cQ m 2) (.obj true [(.int .i64 0),aq,(.int .i64 0)])).2 .resv).1 0)).bind fun dQ=>(kU (.int .i64) m12 aN bD dQ).bind fun m19=>(aP 1 (.ptr (az (some m.length) (cQ m 2) .resv).1 0)).bind fun v20=>(ai none m19 v20).bind fun v21=>(aK false v21).bind fun v22=>qy x2 x3 x8 aH aN (.ptr (az (some m.length) (cQ m 2) .resv).1 0) (.ptr (az (some (m.length+1)) (az (some m.length) (cQ m 2) (.obj true [(.int .i64 0),aq,(.int .i64 0)])).2 .resv).1 0) km kn j0 v21 v22 (.int .i64 0) m19 (xY K)) ((aP 1 (.ptr (az (some m.length) (cQ m 2) .resv).1 0)).bind fun v23=>(ai none m12 v23).bind fun v24=>(aK false v24).bind fun v25=>qy x2 x3 x8 aH aN (.ptr (az (some m.length) (cQ m 2) .resv).1 0) (.ptr (az (some (m.length+1)) (az (some m.length) (cQ m 2) (.obj true [(.int .i64 0),aq,(.int .i64 0)])).2 .resv).1 0) km kn j0 v24 v25 (.int .i64 0) m12 (xY K))) (K (.exit 0) (Ln x8 aN m)):=
(bW (bP _) _ _ _).trans (by kernel_rfl)
theorem KS (x2 x3 x8 aH aN di bT km kn j0 Cq Cr xR:AV) (m:af) (K:KT):qy x2 x3 x8 aH aN di bT km kn j0 Cq Cr xR m K=(ag .other .lss xR Cr).bind fun v1=>aw v1 ((aF none Cq xR).bind fun v2=>(ai none m v2).bind fun v3=>(ai (some 3) (cQ m 1) bT).bind fun v4=>(aP 0 di).bind fun v5=>(ai none (cQ m 1) v5).bind fun v6=>(aF none x2 v6).bind fun v7=>(ai none (cQ m 1) v7).bind fun v8=>(aC (AP ae) (some m.length) (cQ m 1) 70 [v8,xR]).bind fun r9=>(aC (AP ae) (some m.length) r9.2 69 [v4,r9.1]).bind fun ij=>(aM (some 3) (az (some m.length) ij.2 (.obj true [(.bool false),aq,aq])).2 (.ptr (az (some m.length) ij.2 .resv).1 0) ij.1).bind fun m11=>(po (.int .i64) (.agg [(.bool false),aq,aq]) m11 aH v3).bind fun q12=>(aZ (.tup [q12.1,.bool q12.2]) 0).bind fun bh=>(aZ (.tup [q12.1,.bool q12.2]) 1).bind fun bg=>(aM (some 3) (az none m11 (.obj true [(.bool false),aq,aq])).2 (.ptr (az none m11 .resv).1 0) bh).bind fun m15=>aw bg ((ai (some 3) m15 (.ptr (az none m11 .resv).1 0)).bind fun bL=>(ai (some 3) m15 (.ptr (az (some m.length) ij.2 .resv).1 0)).bind fun bD=>(aC (AP ae) none m15 71 [bL,bD]).bind fun gQ=>(aM (some 3) gQ.2 (.ptr (az (some m.length) ij.2 .resv).1 0) gQ.1).bind fun m19=>(ai (some 3) m19 (.ptr (az (some m.length) ij.2 .resv).1 0)).bind fun v20=>(kU (.int .i64) m19 aH v3 v20).bind fun m21=>(ag .other .add xR (.int .i64 1)).bind fun v22=>qy x2 x3 x8 aH aN di bT km kn j0 Cq Cr v22 m21 K) ((ai (some 3) m15 (.ptr (az (some m.length) ij.2 .resv).1 0)).bind fun v23=>(kU (.int .i64) m15 aH v3 v23).bind fun m24=>(ag .other .add xR (.int .i64 1)).bind fun v25=>qy x2 x3 x8 aH aN di bT km kn j0 Cq Cr v25 m24 K)) (K (.exit 2) (Hr x2 x3 x8 aH aN km kn j0 m)):=
(bW (bP _) _ _ _).trans (by kernel_rfl)
theorem Ro (aN b7 Fy FB Cm:AV) (m:af) (K:KT):CR aN b7 Fy FB Cm m K=(ag .other .lss Cm FB).bind fun v1=>aw v1 ((aF none Fy Cm).bind fun v2=>(ai none m v2).bind fun v3=>(po (.int .i64) (.agg [(.bool false),aq,aq]) m aN v3).bind fun q4=>(fU (.agg [(.int .i64 0),(.bool false),aq,aq]) [(0,none,v3),(1,(some 3),q4.1)]).bind fun v5=>(dH (some 4) [v5]).bind fun v6=>(ck none false 46 (some 4) 64 m b7 v6).bind fun r7=>(ag .other .add Cm (.int .i64 1)).bind fun v8=>CR aN r7.1 Fy FB v8 r7.2 K) (K (.exit 4) (Lo b7 m)):=
(bW (bP _) _ _ _).trans (by kernel_rfl)
theorem qdb (x8 aN:AV) (m:af):FZ (aE ae.P f17.results.toList) (.exit 0) (Ln x8 aN m)=(aK false x8).bind fun v1=>CR aN aq x8 v1 (.int .i64 0) m (F3 (aE ae.P f17.results.toList)):=by kernel_rfl
theorem QG (x2 x3 x8 aH aN km kn j0:AV) (m:af) (K:KT):xY K (.exit 2) (Hr x2 x3 x8 aH aN km kn j0 m)=(ag .other .add j0 (.int .i64 1)).bind fun v1=>As x2 x3 x8 aH aN km kn v1 m K:=by kernel_rfl
theorem qdh (b7:AV) (m:af):F3 (aE ae.P f17.results.toList) (.exit 4) (Lo b7 m)=some ((.tup [b7,(.int .i64 0)]),m):=by kernel_rfl
end
end Go.Ab
namespace Go.Ab
noncomputable section
open Go.Proofs.Tryz
def K2 (x2 x4 x5 x6 x7:AV) (m:af):St:=⟨(aJ (x2::aG (x4::x5::x6::x7::bp (aO (aJ []))))),m⟩
def CM (x2 x4 x5 x6 x7 tq nG rP:AV) (m:af) (K:KT):OM:=bX 111 (b6 (bm (aB f111))) 8 (aJ (x2::aG (x4::x5::x6::x7::bw (aX (aJ (aG (tq::nG::rP::bA (aX [])))))))) m K
def K1 (x4 x7:AV) (m:af):St:=⟨(aO (x4::aJ (x7::bp (aO (aJ []))))),m⟩
def CL (x2 x4 x5 x6 x7 tt rQ Ac:AV) (m:af) (K:KT):OM:=bX 111 (b6 (bm (c2 (aB f111)))) 13 (aJ (x2::aG (x4::x5::x6::x7::bA (aO (aJ (tt::rQ::Ac::bw (aX (aO (aG []))))))))) m K
abbrev qa7 (K:KT):KT:=bF 111 (bm (c2 (aB f111))) K
abbrev qa8 (K:KT):KT:=bu 0 (qa7 K)
abbrev FP (K:KT):KT:=(qa8 K)
abbrev qa4 (K:KT):KT:=bF 111 (bm (c2 (c2 (aB f111)))) K
abbrev qa5 (K:KT):KT:=bu 2 (qa4 K)
abbrev FO (K:KT):KT:=(qa5 K)
theorem qgl (a0 a1:AV) (m:af):AC ae 111 [a0,a1] m=(cS none (some 4) m a0).bind fun r1=>(aP 1 r1.1).bind fun v2=>(ai none (az none r1.2 (.obj true [(.bool false),(.lst none true .full []),(.lst none true .full [])])).2 v2).bind fun v3=>(aF (some 3) v3 a1).bind fun v4=>(ai (some 3) (az none r1.2 (.obj true [(.bool false),(.lst none true .full []),(.lst none true .full [])])).2 v4).bind fun v5=>(aM (some 3) (az none (az none r1.2 (.obj true [(.bool false),(.lst none true .full []),(.lst none true .full [])])).2 (.obj true [(.int .i64 0),(.lst none true .full []),(.int .i64 0)])).2 (.ptr (az none (az none r1.2 (.obj true [(.bool false),(.lst none true .full []),(.lst none true .full [])])).2 .resv).1 0) v5).bind fun m6=>(aP 0 (.ptr (az none (az none r1.2 (.obj true [(.bool false),(.lst none true .full []),(.lst none true .full [])])).2 .resv).1 0)).bind fun v7=>(ai none m6 v7).bind fun v8=>(ag .other .eql v8 (.int .i64 (-1))).bind fun v9=>aw v9 ((aP 2 (.ptr (az none (az none r1.2 (.obj true [(.bool false),(.lst none true .full []),(.lst none true .full [])])).2 .resv).1 0)).bind fun v10=>(ai none m6 v10).bind fun v11=>(aP 3 r1.1).bind fun v12=>(ai none m6 v12).bind fun bh=>(ag .other .eql v11 bh).bind fun bg=>aw bg ((aC (AP ae) none m6 23 []).bind fun mD=>(aM (some 3) mD.2 (.ptr (az none r1.2 .resv).1 0) mD.1).bind fun m16=>(ai (some 3) m16 (.ptr (az none r1.2 .resv).1 0)).bind fun bD=>some (bD,m16)) ((aC (AP ae) none m6 20 []).bind fun gQ=>(aM (some 3) gQ.2 (.ptr (az none r1.2 .resv).1 0) gQ.1).bind fun m19=>(ai (some 3) m19 (.ptr (az none r1.2 .resv).1 0)).bind fun v20=>some (v20,m19))) ((aC (AP ae) none m6 20 []).bind fun uu=>(aM (some 3) (az none uu.2 (.obj true [(.bool false),(.lst none true .full []),(.lst none true .full [])])).2 (.ptr (az none uu.2 .resv).1 0) uu.1).bind fun m22=>(aP 0 r1.1).bind fun v23=>(ai none m22 v23).bind fun v24=>(aP 0 (.ptr (az none (az none r1.2 (.obj true [(.bool false),(.lst none true .full []),(.lst none true .full [])])).2 .resv).1 0)).bind fun v25=>(ai none m22 v25).bind fun v26=>(aF none v24 v26).bind fun jt=>(ai none m22 jt).bind fun v28=>(aK false v28).bind fun jS=>CM r1.1 (.ptr (az none r1.2 .resv).1 0) (.ptr (az none (az none r1.2 (.obj true [(.bool false),(.lst none true .full []),(.lst none true .full [])])).2 .resv).1 0) (.int .i64 0) (.ptr (az none uu.2 .resv).1 0) v28 jS (.int .i64 0) m22 (FP (aE ae.P f111.results.toList))):=
(bj ae 111 [a0,a1] m (fn:=f111) (c:=aB f111) qiI rfl).trans (by kernel_rfl)
theorem QP (x2 x4 x5 x6 x7 tq nG rP:AV) (m:af) (K:KT):CM x2 x4 x5 x6 x7 tq nG rP m K=(ag .other .lss rP nG).bind fun v1=>aw v1 ((aF none tq rP).bind fun v2=>(ai none m v2).bind fun v3=>(ag .other .add x6 v3).bind fun v4=>(ag .other .add rP (.int .i64 1)).bind fun v5=>CM x2 x4 x5 v4 x7 tq nG v5 m K) (K (.exit 0) (K2 x2 x4 x5 x6 x7 m)):=
(bW (bP _) _ _ _).trans (by kernel_rfl)
theorem QO (x2 x4 x5 x6 x7 tt rQ Ac:AV) (m:af) (K:KT):CL x2 x4 x5 x6 x7 tt rQ Ac m K=(ag .other .lss Ac rQ).bind fun v1=>aw v1 ((aF none tt Ac).bind fun v2=>(ai none m v2).bind fun v3=>(aP 0 x2).bind fun v4=>(ai none m v4).bind fun v5=>(aP 0 x5).bind fun v6=>(ai none m v6).bind fun v7=>(aF none v5 v7).bind fun v8=>(ai none m v8).bind fun v9=>(aF none v9 Ac).bind fun v10=>(ai none m v10).bind fun v11=>(aC (AP ae) none m 116 [v11,x6]).bind fun gF=>(aZ gF.1 0).bind fun bh=>(aZ gF.1 1).bind fun bg=>(aM (some 3) (az none gF.2 (.obj true [(.bool false),(.lst none true .full []),(.lst none true .full [])])).2 (.ptr (az none gF.2 .resv).1 0) bh).bind fun m15=>(ai (some 3) m15 x7).bind fun bL=>(ai (some 3) m15 (.ptr (az none gF.2 .resv).1 0)).bind fun bD=>(aP 2 x2).bind fun dQ=>(ai none m15 dQ).bind fun c8=>(aF (some 3) c8 v3).bind fun v20=>(ai (some 3) m15 v20).bind fun v21=>(aC (AP ae) (some m15.length) m15 117 [bD,v21]).bind fun rK=>(aC (AP ae) (some m15.length) rK.2 22 [bL,rK.1]).bind fun lh=>(aM (some 3) lh.2 x7 lh.1).bind fun m24=>(ag .other .add Ac (.int .i64 1)).bind fun v25=>CL x2 x4 x5 x6 x7 tt rQ v25 m24 K) (K (.exit 2) (K1 x4 x7 m)):=
(bW (bP _) _ _ _).trans (by kernel_rfl)
theorem qa9 (x2 x4 x5 x6 x7:AV) (m:af):FP (aE ae.P f111.results.toList) (.exit 0) (K2 x2 x4 x5 x6 x7 m)=(aP 1 x5).bind fun v1=>(ai none m v1).bind fun v2=>(aK false v2).bind fun v3=>CL x2 x4 x5 x6 x7 v2 v3 (.int .i64 0) m (FO (aE ae.P f111.results.toList)):=by kernel_rfl
theorem qa6 (x4 x7:AV) (m:af):FO (aE ae.P f111.results.toList) (.exit 2) (K1 x4 x7 m)=(ai (some 3) m x7).bind fun v1=>(aM (some 3) m x4 v1).bind fun m2=>(ai (some 3) m2 x4).bind fun v3=>some (v3,m2):=by kernel_rfl
end
end Go.Ab
namespace Go.Ab.Pq
open Go.Proofs.Tryz
structure IL where
 z:Bool
 o:Own
 ns:List Int
def iA (n:Int):AV:=.int .i64 n
def IL.av (l:IL):AV:=.lst none l.z l.o (l.ns.map iA)
def IL.fr (l:IL):IL:=⟨l.z,l.o.fr,l.ns⟩
structure ND where
 var:Int
 kids:IL
 leaf:Int
def ND.av (n:ND):AV:=.agg [.int .i64 n.var,n.kids.av,.int .i64 n.leaf]
structure OL where
 z:Bool
 o:Own
 es:List IL
def OL.av (l:OL):AV:=.lst none l.z l.o (l.es.map IL.av)
def OL.fr (l:OL):OL:=⟨l.z,l.o.fr,l.es⟩
structure NL where
 sh:Sh
 z:Bool
 o:Own
 es:List ND
def NL.av (l:NL):AV:=.lst l.sh l.z l.o (l.es.map ND.av)
def NL.fr (l:NL):NL:=⟨l.sh,l.z,l.o.fr,l.es⟩
structure CV where
 odds:OL
 nodes:NL
 ws:LV
 leaf:Int
def CV.av (c:CV):AV:=.agg [c.odds.av,c.nodes.av,c.ws.av,.int .i64 c.leaf]
def CV.fr (c:CV):CV:=⟨c.odds.fr,c.nodes.fr,c.ws.fr,c.leaf⟩
theorem fz_il (l:IL):Fz l.av l.fr.av:=fun m=>p8 none l.z l.o (l.ns.map iA) m 8
theorem fz_ol (l:OL):Fz l.av l.fr.av:=fun m=>p8 none l.z l.o (l.es.map IL.av) m 8
theorem qlM (l:NL):Fz l.av l.fr.av:=fun m=>p8 l.sh l.z l.o (l.es.map ND.av) m 8
theorem fza_il (l:IL):∀ m k,bB m (k+1) l.av=some (l.fr.av,[]):=p8 none l.z l.o (l.ns.map iA)
theorem fza_ol (l:OL):∀ m k,bB m (k+1) l.av=some (l.fr.av,[]):=p8 none l.z l.o (l.es.map IL.av)
theorem qlS (l:NL):∀ m k,bB m (k+1) l.av=some (l.fr.av,[]):=p8 l.sh l.z l.o (l.es.map ND.av)
theorem fza_lv (l:LV):∀ m k,bB m (k+1) l.av=some (l.fr.av,[]):=p8 l.sh l.z l.o (l.es.map RV.av)
theorem qlR (n:ND):∀ m k,bB m (k+2) n.av=some (ND.av ⟨n.var,n.kids.fr,n.leaf⟩,[]):=by
 intro m k;have e:bB m (k+2) n.av=(dU (bB m (k+1)) [.int .i64 n.var,n.kids.av,.int .i64 n.leaf]).map fun r=>(.agg r.1,r.2):=rfl;rw[e];simp[dU,jX _ _ m k,fza_il n.kids m k,ND.av]
theorem qlQ (c:CV):∀ m k,bB m (k+2) c.av=some (c.fr.av,[]):=by
 intro m k;have e:bB m (k+2) c.av=(dU (bB m (k+1)) [c.odds.av,c.nodes.av,c.ws.av,.int .i64 c.leaf]).map fun r=>(.agg r.1,r.2):=rfl;rw[e];simp[dU,jX _ _ m k,fza_ol _ m k,qlS _ m k,fza_lv _ m k,CV.av,CV.fr]
theorem qlL (n:ND):Fz n.av (ND.av ⟨n.var,n.kids.fr,n.leaf⟩):=fun m=>qlR n m 7
theorem Vb (c:CV):Fz c.av c.fr.av:=fun m=>qlQ c m 7
theorem len_il (l:IL):aK false l.av=some (.int .i64 l.ns.length):=by simp[IL.av,aK]
theorem len_ol (l:OL):aK false l.av=some (.int .i64 l.es.length):=by simp[OL.av,aK]
theorem EL (l:NL):aK false l.av=some (.int .i64 l.es.length):=by simp[NL.av,aK]
theorem index_il {l:IL} {k:Nat} {kk:IntKind} (hk:k < l.ns.length):aF none l.av (.int kk k)=some (.vptr [iA l.ns[k]]):=by
 simp[IL.av,aF,hk,iA,AV.cells]
theorem load_il (m:af) (n:Int):ai none m (.vptr [iA n])=some (.int .i64 n):=rfl
theorem index_ol {l:OL} {k:Nat} {kk:IntKind} (hk:k < l.es.length):aF none l.av (.int kk k)=some (.vptr [l.es[k].av]):=by
 simp[OL.av,aF,hk,IL.av,AV.cells]
theorem load_ol (m:af) (n:IL):ai none m (.vptr [n.av])=some n.av:=rfl
theorem OE {l:NL} {k:Nat} {kk:IntKind} (hs:l.sh=some 3\/l.es=[]) (hk:k < l.es.length):aF (some 3) l.av (.int kk k)=some (.vptr (l.es[k].av).cells):=by
 have hs:l.sh=some 3:=hs.resolve_right (fun e=>by rw[e] at hk;simp at hk);simp[NL.av,aF,hs,hk]
theorem XA (m:af) (n:ND):ai (some 3) m (.vptr n.av.cells)=some n.av:=rfl
theorem U6 (n:ND):aP 0 (.vptr n.av.cells)=some (.vptr n.av.cells):=rfl
theorem XB (m:af) (n:ND):ai none m (.vptr n.av.cells)=some (.int .i64 n.var):=rfl
def cN (n:ND):Option Ent:=some (.obj true [.int .i64 n.var,n.kids.av,.int .i64 n.leaf])
def zB:IL:=⟨true,.full,[]⟩
def zN:ND:=⟨0,zB,0⟩
theorem mX (m:af):az none m (.obj true [.int .i64 0,.lst none true .full [],.int .i64 0])=(m.length,m++[cN zN]):=rfl
theorem zD {m:af} {k:Nat} {x:ND} (h:m[k]?=some (cN x)):ai none m (.ptr k 0)=some (.int .i64 x.var):=by simp[ai,pT h,kD]
theorem Jm {m:af} {k:Nat} {x:ND} (h:m[k]?=some (cN x)):ai none m (.ptr k 1)=some x.kids.av:=by simp[ai,pT h,kD]
theorem Pa {m:af} {k:Nat} {x:ND} (h:m[k]?=some (cN x)):ai none m (.ptr k 2)=some (.int .i64 x.leaf):=by simp[ai,pT h,kD]
theorem qog {m:af} {k:Nat} {x:ND} (h:m[k]?=some (cN x)):ai (some 3) m (.ptr k 0)=some x.av:=by simp[ai,pT h,kD,ND.av]
theorem Yh {m:af} {x y:ND}:aM (some 3) (m++[cN x]) (.ptr m.length 0) y.av=some (m++[cN y]):=by
 simp only[aM,pT (Nk (m:=m) (e:=cN x)),aa];simp[ND.av,IL.av,Sh.size,cU,dG,bJ,AV.cells,cN]
theorem qkI (m:af) (x:ND):cS none (some 3) m x.av=some (.ptr m.length 0,m++[cN x]):=rfl
def cC (c:CV):Option Ent:=some (.obj true [c.odds.av,c.nodes.av,c.ws.av,.int .i64 c.leaf])
def zC:CV:=⟨⟨true,.full,[]⟩,⟨none,true,.full,[]⟩,X9,0⟩
theorem Ul (m:af) (x:CV):cS none (some 4) m x.av=some (.ptr m.length 0,m++[cC x]):=rfl
theorem qof (m:af):az none m (.obj true [.lst none true .full [],.lst none true .full [],.lst none true .full [],.int .i64 0])=(m.length,m++[cC zC]):=rfl
theorem H5 {m:af} {k:Nat} {x:CV} (h:m[k]?=some (cC x)):ai none m (.ptr k 0)=some x.odds.av:=by simp[ai,pT h,kD]
theorem H6 {m:af} {k:Nat} {x:CV} (h:m[k]?=some (cC x)):ai none m (.ptr k 1)=some x.nodes.av:=by simp[ai,pT h,kD]
theorem A2 {m:af} {k:Nat} {x:CV} (h:m[k]?=some (cC x)):ai none m (.ptr k 2)=some x.ws.av:=by simp[ai,pT h,kD]
theorem MC {m:af} {k:Nat} {x:CV} (h:m[k]?=some (cC x)):ai none m (.ptr k 3)=some (.int .i64 x.leaf):=by simp[ai,pT h,kD]
theorem UF {m:af} {k:Nat} {x:CV} (h:m[k]?=some (cC x)):ai (some 4) m (.ptr k 0)=some x.av:=by simp[ai,pT h,kD,CV.av]
theorem qld {m:af} {k:Nat} {x y:CV} (h:m[k]?=some (cC x)):aM (some 4) m (.ptr k 0) y.av=some (m.set k (cC y)):=by
 simp only[aM,pT h,aa]
 rfl
theorem U5 (n:Nat):aP 3 (.ptr n 0)=some (.ptr n 3):=rfl
theorem V94 (n:Int):AP ae 94 [.int .i64 n]=some (.bool (decide (0<=n/\n<=2147483647))):=by
 refine cM _ _ (qG _) rfl (m:=[]) ?_;rw[SQ,kK,aa,aA]
 by_cases h:n≥0
 ·rw[an h,sr,aa];congr 3;exact jL.2 (by omega)
 ·rw[aj h];congr 3;exact (cT (by omega)).symm
def qQ (o:Int):Bool:=decide (0<=o/\o<=1000)
def rowB (l:IL) (a:Int):Bool:=l.ns.all qQ && (decide ((l.ns.length:Int)=a) && decide (l.ns.sum≠0))
def oddsB (arms:IL) (L:OL):Bool:=decide (L.es.length=arms.ns.length) && (L.es.zip arms.ns).all fun p=>rowB p.1 p.2
theorem oddB_iff {o:Int}:qQ o=true↔0<=o/\o<=1000:=by unfold qQ;exact wF
theorem HT (l:IL) (hl:l.ns.length<=64) (x0 x5 x6 di bT dN:AV) (m:af) (K:KT):∀ (j i:Nat) (s:Int),i+j=l.ns.length->0<=s->s<=1000 * i ->
  G5 x0 x5 x6 (.int .i64 s) di bT dN l.av (.int .i64 l.ns.length) (.int .i64 i) m K=if (l.ns.drop i).all qQ then K (.exit 2) (LM x0 x5 x6 (.int .i64 (s+(l.ns.drop i).sum)) di bT dN m) else K .ret (HB (.bool false) m)
 | 0,i,s,h,h0,h1=>by
  rw[RQ,cW,aa,aA,aj (by omega),jq (by omega),List.sum_nil,Int.add_zero];rfl
 | j+1,i,s,h,h0,h1=>by
  have hi:i < l.ns.length:=by omega
  rw[RQ,cW,aa,aA,an hi,index_il hi,aa,load_il,aa,bc,aa,aA,kr hi,oq,nk]
  by_cases c1:l.ns[i] < 0
  ·rw[an c1,show qQ l.ns[i]=false from cT (by omega)];rfl
  ·rw[aj c1,gY,aa,aA]
   by_cases c2:l.ns[i] > 1000
   ·rw[an c2,show qQ l.ns[i]=false from cT (by omega)];rfl
   ·have ih:=HT l hl x0 x5 x6 di bT dN m K j (i+1) (s+l.ns[i]) (by omega) (by omega) (by omega);rw[aj c2,lD,iQ (by omega) (by omega),aa,cr (by omega),aa,ih,show qQ l.ns[i]=true from eE (by omega),iN,Int.add_assoc]
theorem TC (arms:IL) (L:OL) (hlen:L.es.length=arms.ns.length) (h64:∀ l∈L.es,l.ns.length<=64) (mN:L.es.length<=40) (m:af) (K:KT):∀ j i:Nat,i+j=L.es.length ->
  G4 arms.av L.av (.int .i64 L.es.length) (.int .i64 i) m K=if ((L.es.zip arms.ns).drop i).all (fun p=>rowB p.1 p.2) then K (.exit 0) (LL m) else K .ret (Dp (.bool false) m)
 | 0,i,h=>by
  rw[RP,cW,aa,aA,aj (by omega),jq (by rw[List.length_zip];omega)];rfl
 | j+1,i,h=>by
  have hi:i < L.es.length:=by omega
  have hz:i < (L.es.zip arms.ns).length:=by rw[List.length_zip];omega
  have ih:=TC arms L hlen h64 mN m K j (i+1) (by omega);have hx:=HT L.es[i] (h64 _ (bI hi)) arms.av (.int .i64 i) L.es[i].av L.av (.int .i64 L.es.length) (.int .i64 i) m (Gl K) L.es[i].ns.length 0 0 (by omega) (by omega) (by omega);rw[jI,Int.zero_add,show (((0:Nat):Int))=(0:Int) from rfl] at hx;rw[RP,cW,aa,aA,an hi,index_ol hi,aa,load_ol,aa,len_il,aa,hx,kr hz,oq,List.getElem_zip];dsimp only;unfold rowB
  by_cases c1:L.es[i].ns.all qQ=true
  ·rw[an c1,qe6,len_il,aa,index_il (by omega),aa,load_il,aa,gZ,aa,aA,c1,iN]
   by_cases c2:(L.es[i].ns.length:Int)=arms.ns[i]
   ·rw[aj (by omega),iM,aa,aA,eE c2,iN]
    by_cases c3:L.es[i].ns.sum=0
    ·rw[an c3,cT (by omega)];rfl
    ·rw[aj c3,eE c3,iN,cr (by omega),aa,ih];rfl
   ·rw[an c2,cT c2];rfl
  ·rw[aj c1,qe5,xU.2 c1];rfl
theorem V63 (arms:IL) (L:OL) (h64:∀ l∈L.es,l.ns.length<=64) (mN:L.es.length<=40):AP ae 63 [arms.av,L.av]=some (.bool (oddsB arms L)):=by
 refine cM _ _ (qG _) rfl (m:=[]) ?_;unfold oddsB;rw[T63,len_ol,aa,len_il,aa,gZ,aa,aA]
 by_cases h:L.es.length=arms.ns.length
 ·rw[aj (by omega),aa,show ((0:Int))=((0:Nat):Int) from rfl,TC arms L h h64 mN [] _ L.es.length 0 (by omega),jI,eE h,iN]
  by_cases h2:(L.es.zip arms.ns).all (fun p=>rowB p.1 p.2)=true
  ·rw[an h2,h2,qe0]
  ·rw[aj h2,xU.2 h2,qeZ]
 ·rw[an (by omega),cT h];rfl
theorem TL (l:IL) (hl:l.ns.length<=64) (x0 x5 x6 di bT dN:AV) (m:af) (K:KT):∀ (j i:Nat) (s:Int),i+j=l.ns.length->0<=s->s<=1000 * i ->
  GZ x0 x5 x6 (.int .i64 s) di bT dN l.av (.int .i64 l.ns.length) (.int .i64 i) m K=if (l.ns.drop i).all qQ then K (.exit 2) (Lv x0 x5 x6 (.int .i64 (s+(l.ns.drop i).sum)) di bT dN m) else K .ret (Hz (.bool false) m)
 | 0,i,s,h,h0,h1=>by
  rw[Rv,cW,aa,aA,aj (by omega),jq (by omega),List.sum_nil,Int.add_zero];rfl
 | j+1,i,s,h,h0,h1=>by
  have hi:i < l.ns.length:=by omega
  rw[Rv,cW,aa,aA,an hi,index_il hi,aa,load_il,aa,bc,aa,aA,kr hi,oq,nk]
  by_cases c1:l.ns[i] < 0
  ·rw[an c1,show qQ l.ns[i]=false from cT (by omega)];rfl
  ·rw[aj c1,gY,aa,aA]
   by_cases c2:l.ns[i] > 1000
   ·rw[an c2,show qQ l.ns[i]=false from cT (by omega)];rfl
   ·have ih:=TL l hl x0 x5 x6 di bT dN m K j (i+1) (s+l.ns[i]) (by omega) (by omega) (by omega);rw[aj c2,lD,iQ (by omega) (by omega),aa,cr (by omega),aa,ih,show qQ l.ns[i]=true from eE (by omega),iN,Int.add_assoc]
theorem Ts (arms:IL) (L:OL) (hlen:L.es.length=arms.ns.length) (h64:∀ l∈L.es,l.ns.length<=64) (mN:L.es.length<=40) (m:af) (K:KT):∀ j i:Nat,i+j=L.es.length ->
  GY arms.av L.av (.int .i64 L.es.length) (.int .i64 i) m K=if ((L.es.zip arms.ns).drop i).all (fun p=>rowB p.1 p.2) then K (.exit 0) (Lu m) else K .ret (Dn (.bool false) m)
 | 0,i,h=>by
  rw[Ru,cW,aa,aA,aj (by omega),jq (by rw[List.length_zip];omega)];rfl
 | j+1,i,h=>by
  have hi:i < L.es.length:=by omega
  have hz:i < (L.es.zip arms.ns).length:=by rw[List.length_zip];omega
  have ih:=Ts arms L hlen h64 mN m K j (i+1) (by omega);have hx:=TL L.es[i] (h64 _ (bI hi)) arms.av (.int .i64 i) L.es[i].av L.av (.int .i64 L.es.length) (.int .i64 i) m (F9 K) L.es[i].ns.length 0 0 (by omega) (by omega) (by omega);rw[jI,Int.zero_add,show (((0:Nat):Int))=(0:Int) from rfl] at hx;rw[Ru,cW,aa,aA,an hi,index_ol hi,aa,load_ol,aa,len_il,aa,hx,kr hz,oq,List.getElem_zip];dsimp only;unfold rowB
  by_cases c1:L.es[i].ns.all qQ=true
  ·rw[an c1,qdX,len_il,aa,index_il (by omega),aa,load_il,aa,gZ,aa,aA,c1,iN]
   by_cases c2:(L.es[i].ns.length:Int)=arms.ns[i]
   ·rw[aj (by omega),iM,aa,aA,eE c2,iN]
    by_cases c3:L.es[i].ns.sum=0
    ·rw[an c3,cT (by omega)];rfl
    ·rw[aj c3,eE c3,iN,cr (by omega),aa,ih];rfl
   ·rw[an c2,cT c2];rfl
  ·rw[aj c1,qdW,xU.2 c1];rfl
theorem V18 (arms:IL) (L:OL) (h64:∀ l∈L.es,l.ns.length<=64) (mN:L.es.length<=40):AP ae 18 [arms.av,L.av]=some (.bool (oddsB arms L)):=by
 refine cM _ _ (qG _) rfl (m:=[]) ?_;unfold oddsB;rw[T18,len_ol,aa,len_il,aa,gZ,aa,aA]
 by_cases h:L.es.length=arms.ns.length
 ·rw[aj (by omega),aa,show ((0:Int))=((0:Nat):Int) from rfl,Ts arms L h h64 mN [] _ L.es.length 0 (by omega),jI,eE h,iN]
  by_cases h2:(L.es.zip arms.ns).all (fun p=>rowB p.1 p.2)=true
  ·rw[an h2,h2,qdR]
  ·rw[aj h2,xU.2 h2,qdQ]
 ·rw[an (by omega),cT h];rfl
end Go.Ab.Pq
namespace Go.Ab.Pq
open Go.Proofs.Tryz
def uT (f:Nat->Bool):Nat->Nat->Bool
 | 0,_=>true
 | j+1,i=>f i && uT f j (i+1)
theorem TV {f:Nat->Bool}:∀ {j i:Nat},uT f j i=true↔∀ k,i<=k->k < i+j->f k=true
 | 0,i=>by
  constructor
  ·intro _ k h1 h2;omega
  ·intro _;rfl
 | j+1,i=>by
  rw[uT,cn,TV (j:=j)]
  constructor
  ·rintro ⟨h1,h2⟩ k h3 h4
   by_cases h:k=i
   ·rw[h];exact h1
   ·exact h2 k (by omega) (by omega)
  ·intro h;exact ⟨h i (aR _) (by omega),fun k h1 h2=>h k (by omega) (by omega)⟩
def xN (ns:List ND) (k:Nat):Int:=(ns.map ND.var).getD k 0
def pk (ns:List ND) (i:Nat) (v k:Int):Bool:=decide (0<=k/\k < i) && (decide (xN ns k.toNat < 0) || decide (v < xN ns k.toNat))
def ql (arms:IL) (ns:List ND) (i:Nat) (n:ND):Bool:=
 if n.var=-1 then decide (n.kids.ns.length=0/\0<=n.leaf/\n.leaf<=2147483647)
 else decide (0<=n.var/\n.var < arms.ns.length/\n.leaf=0/\(n.kids.ns.length:Int)=arms.ns.getD n.var.toNat 0) && n.kids.ns.all (pk ns i n.var)
def vM (arms:IL) (ns:List ND):Bool:=decide (0 < ns.length) && uT (fun i=>ql arms ns i (ns.getD i zN)) ns.length 0
theorem Qd {ns:List ND} {k:Nat} (h:k < ns.length):xN ns k=ns[k].var:=by
 unfold xN;rw[aT,re,bM h];rfl
theorem Ni {ns:List ND} {k:Nat} (h:k < ns.length):ns.getD k zN=ns[k]:=by
 rw[aT,bM h];rfl
theorem Ya {arms:IL} {ns:List ND} {i:Nat} {n:ND} (h:ql arms ns i n=true):n.var=-1\/0<=n.var:=by
 unfold ql at h
 by_cases c:n.var=-1
 ·exact .inl c
 ·rw[aj c,cn,wF] at h;exact .inr h.1.1
theorem qoR {m:af} {d:Option Nat} {g:Nat} (a:Int):aC (AP ae) d m g [.int .i64 a]=(AP ae g [.int .i64 a]).map fun v=>(v,m):=cG (fW _ a)
theorem TJ (L:NL) (hs:L.sh=some 3\/L.es=[]) (i:Nat) (hi:i<=L.es.length) (hp:∀ k,k < i->xN L.es k=-1\/0<=xN L.es k) (n:ND) (b:Nat) (m:af) (hb:m[b]?=some (cN n)) (hk:n.kids.ns.length<=64) (x0 x9 aH aY:AV) (K:KT):∀ j c:Nat,c+j=n.kids.ns.length ->
  xZ x0 L.av (.int .i64 i) (.ptr b 0) x9 aH aY n.kids.av (.int .i64 n.kids.ns.length) (.int .i64 c) m K=if (n.kids.ns.drop c).all (pk L.es i n.var) then K (.exit 2) (Hj x0 L.av x9 aH aY m) else K .ret (Dm (.bool false) m)
 | 0,c,h=>by
  rw[Gs,cW,aa,aA,aj (by omega),jq (by omega)];rfl
 | j+1,c,h=>by
  have hc:c < n.kids.ns.length:=by omega
  have ih:=TJ L hs i hi hp n b m hb hk x0 x9 aH aY K j (c+1) (by omega);rw[Gs,cW,aa,aA,an hc,index_il hc,aa,load_il,aa,bc,aa,aA,kr hc,oq];generalize n.kids.ns[c]=k;unfold pk
  by_cases c1:k < 0
  ·rw[an c1,cT (by omega:¬ (0<=k/\k < i))];rfl
  ·rw[aj c1,kK,aa,aA]
   by_cases c2:k≥i
   ·rw[an c2,cT (by omega:¬ (0<=k/\k < i))];rfl
   ·obtain ⟨q,rfl⟩:=oW (by omega:0<=k);have hq:q < L.es.length:=by omega
    have fG:=hp q (by omega);rw[Qd hq] at fG;rw[aj c2,OE hs hq,aa,U6,aa,XB,aa,kK,aa,aA,eE (by omega:(0:Int)<=(q:Int)/\(q:Int) < i),iN,cH,Qd hq]
    by_cases c3:L.es[q].var≥0
    ·rw[an c3,aa,U6,aa,XB,aa,df,aa,zD hb,aa,sr,aa,aA,cT (by omega:¬ L.es[q].var < 0),Ah]
     by_cases c4:L.es[q].var<=n.var
     ·rw[an c4,cT (by omega)];rfl
     ·rw[aj c4,cr (by omega),aa,ih,eE (by omega),iN];rfl
    ·rw[aj c3,cr (by omega),aa,ih,eE (by omega:L.es[q].var < 0),Bool.true_or,iN];rfl
theorem To (arms:IL) (ha:∀ a∈arms.ns,a<=64) (L:NL) (hs:L.sh=some 3\/L.es=[]) (hL:L.es.length<=4000) (K:KT):∀ (j i:Nat) (m:af),i+j=L.es.length->(∀ k,k < i->xN L.es k=-1\/0<=xN L.es k) ->
  ∃ m',uG arms.av L.av L.av (.int .i64 L.es.length) (.int .i64 i) m K=if uT (fun i=>ql arms L.es i (L.es.getD i zN)) j i then K (.exit 0) (Hk L.av m') else K .ret (tF (.bool false) m')
 | 0,i,m,h,hp=>⟨m,by rw[Gt,cW,aa,aA,aj (by omega)];rfl⟩
 | j+1,i,m,h,hp=>by
  have hi:i < L.es.length:=by omega
  have nx:ql arms L.es i L.es[i]=true->∃ m',uG arms.av L.av L.av (.int .i64 L.es.length) (.int .i64 ((i+1:Nat):Int)) (m++[cN L.es[i]]) K=if uT (fun i=>ql arms L.es i (L.es.getD i zN)) j (i+1) then K (.exit 0) (Hk L.av m') else K .ret (tF (.bool false) m'):=by
   intro hn;refine To arms ha L hs hL K j (i+1) _ (by omega) (fun k hk=>?_)
   by_cases c:k=i
   ·rw[c,Qd hi];exact Ya hn
   ·exact hp k (by omega)
  rw[uT,Ni hi,Gt,cW,aa,aA,an hi,OE hs hi,aa,XA,aa];simp only[mX,cX];rw[Yh,aa];have hb:(m++[cN L.es[i]])[m.length]?=some (cN L.es[i]):=Nk;have hX:=fun (hk:L.es[i].kids.ns.length<=64) (K:KT)=>TJ L hs i (by omega) hp L.es[i] m.length _ hb hk arms.av L.av (.int .i64 L.es.length) (.int .i64 i) K L.es[i].kids.ns.length 0 (by omega);rw[jI] at hX;generalize hne:L.es[i]=n at *;simp only[df,dh,dc];rw[aa,zD hb,aa,iM,aa,aA]
  by_cases c1:n.var=-1
  ·rw[an c1,aa,Jm hb,aa,len_il,aa,gY,aa,aA];have e1:ql arms L.es i n=decide (n.kids.ns.length=0/\0<=n.leaf/\n.leaf<=2147483647):=by unfold ql;rw[an c1]
   by_cases c2:n.kids.ns.length=0
   ·rw[aj (by omega),aa,Pa hb,aa];rw[qoR,V94,aS,aa,dE,aa]
    by_cases c3:0<=n.leaf/\n.leaf<=2147483647
    ·obtain ⟨m',hm⟩:=nx (e1.trans (eE ⟨c2,c3⟩));refine ⟨m',?_⟩;rw[eE c3,jU,oP,cr (by omega),aa,hm,e1,eE ⟨c2,c3⟩,iN]
    ·refine ⟨m++[cN n],?_⟩;rw[cT c3,nH,oQ,e1,cT (fun h=>c3 h.2)];rfl
   ·refine ⟨m++[cN n],?_⟩;rw[an (by omega),e1,cT (by omega)];rfl
  ·have e1:ql arms L.es i n=(decide (0<=n.var/\n.var < arms.ns.length/\n.leaf=0/\(n.kids.ns.length:Int)=arms.ns.getD n.var.toNat 0) && n.kids.ns.all (pk L.es i n.var)):=by unfold ql;rw[aj c1]
   rw[aj c1,aa,zD hb,aa,bc,aa,aA]
   by_cases c2:n.var < 0
   ·refine ⟨m++[cN n],?_⟩;rw[an c2,e1,cT (by omega)];rfl
   ·rw[aj c2,aa,zD hb,aa,len_il,aa,kK,aa,aA]
    by_cases c3:n.var≥(arms.ns.length:Nat)
    ·refine ⟨m++[cN n],?_⟩;rw[an c3,e1,cT (by omega)];rfl
    ·rw[aj c3,aa,Pa hb,aa,gZ,aa,aA]
     by_cases c4:n.leaf=0
     ·obtain ⟨v,hv⟩:=oW (by omega:0<=n.var);have fZ:v < arms.ns.length:=by omega
      have jz:arms.ns.getD n.var.toNat 0=arms.ns[v]:=by
       rw[hv,cH,aT,bM fZ];rfl
      rw[aj (by omega),aa,Jm hb,aa,len_il,aa,aa,zD hb,aa,hv,index_il fZ,aa,load_il,aa,gZ,aa,aA];rw[jz] at e1
      by_cases c5:(n.kids.ns.length:Int)=arms.ns[v]
      ·have:=ha _ (bI fZ);rw[aj (by omega),aa,Jm hb,aa,len_il,aa,show ((0:Int))=((0:Nat):Int) from rfl,hX (by omega),e1,eE (by omega),iN];rw[eE (by omega:0<=n.var/\n.var < arms.ns.length/\n.leaf=0/\(n.kids.ns.length:Int)=arms.ns[v]),iN] at e1
       by_cases c6:n.kids.ns.all (pk L.es i n.var)=true
       ·obtain ⟨m',hm⟩:=nx (e1.trans c6);refine ⟨m',?_⟩;rw[an c6,Qx,cr (by omega),aa,hm,c6,iN]
       ·refine ⟨m++[cN n],?_⟩;rw[aj c6,FM,xU.2 c6];rfl
      ·refine ⟨m++[cN n],?_⟩;rw[an (by omega),e1,cT (by omega)];rfl
     ·refine ⟨m++[cN n],?_⟩;rw[an (by omega),e1,cT (by omega)];rfl
theorem qg8 (arms:IL) (ha:∀ a∈arms.ns,a<=64) (L:NL) (hs:L.sh=some 3\/L.es=[]) (hL:L.es.length<=4000):AP ae 107 [arms.av,L.av]=some (.bool (vM arms L.es)):=by
 obtain ⟨m',h⟩:=To arms ha L hs hL (tw (aE ae.P f107.results.toList)) L.es.length 0 [] (by omega) (fun k hk=>by omega);refine cM _ _ (qG _) rfl (m:=m') ?_;unfold vM;rw[Sz,EL,aa,show ((0:Int))=((0:Nat):Int) from rfl,h]
 by_cases h2:uT (fun i=>ql arms L.es i (L.es.getD i zN)) L.es.length 0=true
 ·rw[an h2,h2,Qy,EL,aa,gY,aa,Bool.and_true];congr 3;exact jL.2 (by omega)
 ·rw[aj h2,xU.2 h2,tz,Bool.and_false]
end Go.Ab.Pq
namespace Go.Ab.Pq
open Go.Proofs.Tryz
theorem WS {R:Type} (b:Bool) (x y:Option R):aw (.bool (!b)) x y=aw (.bool b) y x:=by cases b<;>rfl
theorem qhl {r:RV} {k:Nat} (h:ROk k r):AP ae 151 [r.av]=some (.bool (!nZ r)):=by
 refine cM _ _ (qG _) rfl (m:=[cR r]) ?_;rw[qgK,dk,aa];simp only[aQ,bQ];rw[dI,aa,dJ,qhm h.fr,aS,aa,dE,aa];rfl
theorem qkS {fid g:Nat} {vs:List AV} {m:af} {d:Option Nat} {K:AV->af->OM} (hi:ae.inl fid g=false) (h1:((ae.lib g).isNone && (ae.libm g).isNone)=true:=by rfl):j7 ae fid (AP ae) (AC ae) d g vs m K=(aC (AP ae) d m g vs).bind fun r=>K r.1 r.2:=by
 have h5:ae.lib g=none/\ae.libm g=none:=by
  rw[cn] at h1;exact ⟨Option.isNone_iff_eq_none.1 h1.1,Option.isNone_iff_eq_none.1 h1.2⟩
 unfold j7;rw[h5.2,h5.1,hi]
theorem Tt {l:LV} {k:Nat} (hl:LOk k l) (hlen:l.es.length < 2 ^ 40) (m:af) (K:KT):∀ j i:Nat,i+j=l.es.length ->
  ∃ r:Nat,Au l.av (.fn 151 []) (.int .i64 l.es.length) (.int .i64 i) m K=if (l.es.drop i).all nZ then K (.exit 0) (Dj m) else K .ret (AQ (.int .i64 r) m)
 | 0,i,h=>⟨0,by rw[Rp,cW,aa,aA,aj (by omega),jq (by omega)];rfl⟩
 | j+1,i,h=>by
  have hi:i < l.es.length:=by omega
  have hr:=hl.ok _ (bI hi);obtain ⟨r,ih⟩:=Tt hl hlen m K j (i+1) (by omega)
  have pre:∀ r',(Au l.av (.fn 151 []) (.int .i64 l.es.length) (.int .i64 i) m K=if (l.es.drop i).all nZ then K (.exit 0) (Dj m) else K .ret (AQ (.int .i64 r') m))↔(aw (.bool (!nZ l.es[i])) (K .ret (AQ (.int .i64 i) m)) (Au l.av (.fn 151 []) (.int .i64 l.es.length) (.int .i64 ((i+1:Nat):Int)) m K)=if nZ l.es[i] && (l.es.drop (i+1)).all nZ then K (.exit 0) (Dj m) else K .ret (AQ (.int .i64 r') m)):=by
   intro r';rw[Rp,cW,aa,aA,an hi,BD hl hi,aa,BL,aa,show lH (.fn 151 [])=some (151,[]) from rfl,aa,qkS rfl,show ([l.es[i].av]++([]:List AV))=[l.es[i].av] from rfl,dJ,qhl hr.fr,aS,aa,cr (by omega),aa,kr hi,oq];exact Iff.rfl
  cases hb:nZ l.es[i] with
  | false=>
   refine ⟨i,(pre i).2 ?_⟩;rw[hb];rfl
  | true=>
   refine ⟨r,(pre r).2 ?_⟩;rw[hb,jU,oP,ih,iN]
theorem qhk {l:LV} {k:Nat} (hl:LOk k l) (hlen:l.es.length < 2 ^ 40):AP ae 150 [l.av,.fn 151 []]=some (.bool (!l.es.all nZ)):=by
 have h65:∃ n:Int,AP ae 180 [l.fr.av,.fn 151 []]=some (.int .i64 n)/\decide (n≥0) = !l.es.all nZ:=by
  obtain ⟨r,h⟩:=Tt hl.fr' hlen [] (F7 (aE ae.P f180.results.toList)) l.fr.es.length 0 (by omega);rw[jI] at h
  by_cases c:l.fr.es.all nZ=true
  ·refine ⟨-1,cM _ _ (fW _ _) rfl (m:=[]) ?_,?_⟩
   ·rw[SJ,zq,aa,show ((0:Int))=((0:Nat):Int) from rfl,h,an c,qdl]
   ·have c:l.es.all nZ=true:=c;rw[c];rfl
  ·refine ⟨r,cM _ _ (fW _ _) rfl (m:=[]) ?_,?_⟩
   ·rw[SJ,zq,aa,show ((0:Int))=((0:Nat):Int) from rfl,h,aj c,qdk]
   ·have c:¬ l.es.all nZ=true:=c;rw[xU.2 c,eE (by omega)];rfl
 obtain ⟨n,h1,h2⟩:=h65;refine cM _ _ (qG _) rfl (m:=[]) ?_;rw[qgJ,fe (Nf l) (fun _=>rfl),h1,aS,aa,kK,aa,h2]
def rT (m:af) (e:Nat) (es:List AV):AV:=if es=[] then .lst none true .full [] else .lst none false (.tok m.length e) es
def mT (m:af) (es:List AV):af:=if es=[] then m else n7 m es.length
theorem qir {m:af} {e b:Nat} {es:List AV} {z:Bool} {o:Own} {y:AV} (h:(es.length+1) * b<=gS):ck none false e none b (mT m es) (rT m e es) (.lst none z o [y])=some (rT m e (es++[y]),mT m (es++[y])):=by
 cases es with
 | nil=>
  simp[ck,rT,mT,n7,az,Sh.size,h];simpa using h
 | cons a es=>
  have:=DG (e:=e) (b:=b) (m:=m) (es:=a::es) (z:=z) (o:=o) (y:=y) h;simp only[rT,mT,aj (List.cons_ne_nil a es)];rw[this];simp
theorem qlO (m:af) (e:Nat) (es:List AV):Fz (rT m e es) (if es=[] then .lst none true .full [] else .lst none false .no es):=by
 intro m';unfold rT;split<;>rfl
def ji (L:OL):List Int:=L.es.map fun l=>(l.ns.length:Int)
def oI (ns:List Int):IL:=if ns=[] then ⟨true,.full,[]⟩ else ⟨false,.no,ns⟩
theorem Ms (ns:List Int):(oI ns).ns=ns:=by
 unfold oI
 split
 ·rename_i h;rw[h]
 ·rfl
theorem Vc (m:af) (e:Nat) (ns:List Int):Fz (rT m e (ns.map iA)) (oI ns).av:=by
 have:=qlO m e (ns.map iA);unfold oI
 cases ns with
 | nil=>exact this
 | cons a l=>exact this
theorem BJ (L:OL):(ji L).length=L.es.length:=by simp[ji]
theorem Xr {L:OL} {i:Nat} (h:i < L.es.length):(ji L)[i]'(by rw[BJ];exact h)=(L.es[i].ns.length:Int):=by simp[ji]
theorem qnM {L:OL} {i:Nat} (h:i < L.es.length):((ji L).take (i+1)).map iA=((ji L).take i).map iA++[.int .i64 (L.es[i].ns.length:Int)]:=by
 rw[oC (by rw[BJ];exact h),lA,Xr h];rfl
theorem qqa (L:OL) {i:Nat} (h:i<=L.es.length):(((ji L).take i).map iA).length=i:=by
 rw[cg,jV,BJ];omega
def BG (l:IL):Bool:=decide (1<=l.ns.length/\l.ns.length<=64)
theorem Tq (x1:AV) (m:af) (L:OL) (mN:L.es.length<=40) (K:KT):∀ j i:Nat,i+j=L.es.length ->
  ∃ m',Gv x1 (rT m 3 (((ji L).take i).map iA)) L.av (.int .i64 L.es.length) (.int .i64 i) (mT m (((ji L).take i).map iA)) K=if (L.es.drop i).all BG then K (.exit 0) (K3 x1 (rT m 3 ((ji L).map iA)) (mT m ((ji L).map iA))) else K .ret (Hw (.bool false) m')
 | 0,i,h=>⟨m,by
  rw[QQ,cW,aa,aA,aj (by omega),kW (by rw[BJ];omega),jq (by omega)];rfl⟩
 | j+1,i,h=>by
  have hi:i < L.es.length:=by omega
  obtain ⟨m',ih⟩:=Tq x1 m L mN K j (i+1) (by omega);rw[qnM hi] at ih;rw[QQ,cW,aa,aA,an hi,index_ol hi,aa,load_ol,aa,len_il,aa,bc,aa,aA,kr hi,oq];unfold BG
  by_cases c1:(L.es[i].ns.length:Int) < 1
  ·refine ⟨mT m (((ji L).take i).map iA),?_⟩;rw[an c1,cT (by omega)];rfl
  ·rw[aj c1,aa,gY,aa,aA]
   by_cases c2:(L.es[i].ns.length:Int) > 64
   ·refine ⟨mT m (((ji L).take i).map iA),?_⟩;rw[an c2,cT (by omega)];rfl
   ·refine ⟨m',?_⟩;rw[aj c2,aa,ry,aa,qir (by rw[qqa L (by omega)];simp only[gS];omega),aa,cr (by omega),aa,eE (by omega),iN];exact ih
end Go.Ab.Pq
