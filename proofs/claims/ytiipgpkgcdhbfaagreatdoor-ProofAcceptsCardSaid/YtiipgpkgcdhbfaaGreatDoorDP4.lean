/- What the functions of nat compute, in values. -/
import Derived.Test.YtiipgpkgcdhbfaaGreatDoorDP3
import Derived.Test.YtiipgpkgcdhbfaaGreatDoorDP2
set_option maxRecDepth 100000
set_option linter.unusedVariables false
set_option linter.unusedSimpArgs false
set_option linter.unusedSectionVars false
namespace Go.Ab
open Go.Proofs.Tryz
structure NOk (x:NV):Prop where
 dg:Dg x.ds
 len:x.ds.length < 2 ^ 40
 nil:x.z=true->x.ds=[]
def NV.v (x:NV):Nat:=val x.ds
theorem NOk.fr {x:NV} (h:NOk x):NOk x.fr:=⟨h.dg,h.len,h.nil⟩
theorem ub {o:Own} {n:Nat} (h:(aC n).length < 2 ^ 40):NOk ⟨false,o,aC n⟩:=⟨gu n,h,by simp⟩
theorem tt {x:NV} (h:NOk x):AP ae 164 [x.av]=some (NV.av ⟨x.z,.no,aC x.v⟩):=by
 rw[q8 x (by have:=h.len;omega),lC h.dg];rfl
theorem vV {x y:NV} (hx:NOk x) (hy:NOk y):AP ae 131 [x.av,y.av]=some (.int .i64 (gQ x.v y.v)):=by
 rw[qfu x y (by have:=hx.len;omega) (by have:=hy.len;omega),qkl hx.dg hy.dg];rfl
theorem qgC {x y:NV} (hx:NOk x) (hy:NOk y):AP ae 130 [x.av,y.av]=some (NV.av ⟨false,.no,aC (x.v+y.v)⟩):=by
 rw[qft x y hx.len hy.len hx.dg hy.dg,qhx hx.dg hy.dg];rfl
theorem xT {x y:NV} (hx:NOk x) (hy:NOk y):AP ae 127 [x.av,y.av]=some (NV.av ⟨false,.no,aC (x.v * y.v)⟩):=by
 rw[qfs x y hx.len hy.len hx.dg hy.dg,qnq hx.dg hy.dg];rfl
def qG (n:Nat):Own:=if n=0 then .full else .no
theorem TP (z:Bool) (o:Own) (n:Nat):tD ⟨z,o,aC n⟩=⟨z,qG n,aC n⟩:=by
 unfold tD qG;simp only[ER]
theorem Se {z:Bool} {o:Own} {n:Nat} (h:NOk ⟨z,o,aC n⟩):AP ae 163 [NV.av ⟨z,o,aC n⟩]=some (NV.av ⟨z,qG n,aC n⟩):=by
 rw[RC _ h.nil h.len,TP]
theorem qnH {n:Nat} (h:n < 18446744073709551616):OE n=aC n:=by
 rw[OE,lC (mE.2 ⟨jY _ (by omega),uQ (by omega)⟩)];congr 1;simp only[val];omega
theorem Lt {n:Nat} (h:n < 18446744073709551616):AP ae 123 [.int .u64 n]=some (NV.av ⟨false,qG n,aC n⟩):=by
 rw[qfr n h,qnH h,TP]
def sj (ds:List Nat):Bool:=decide (ds=aC (val ds))
theorem qpI {ds:List Nat} (h:ds.length≠0) (h':ds.getD (ds.length - 1) 0≠0):tr ds=ds:=by
 obtain ⟨n,hn⟩:∃ n,ds.length=n+1:=⟨ds.length - 1,by omega⟩;rw[hn,pw] at h';rw[tr,hn,lW,ai h',<- hn,List.take_length]
theorem Yt {ds:List Nat} (h:Dg ds):BD ds=sj ds:=by
 unfold BD sj;rw[<- lC h]
 by_cases h0:ds.length=0
 ·have:ds=[]:=List.length_eq_zero_iff.1 h0;subst this
  rfl
 ·by_cases h1:ds.getD (ds.length - 1) 0=0
  ·have hlt:(tr ds).length < ds.length:=by
    obtain ⟨n,hn⟩:∃ n,ds.length=n+1:=⟨ds.length - 1,by omega⟩;rw[hn,pw] at h1;have:=EH ds n;rw[tr,jP,hn,lW,an h1];omega
   have hne:¬ ds=tr ds:=fun e=>by rw[<- e] at hlt;omega
   rw[dd h0,dd hne,h1];rfl
  ·have:=qpI h0 h1;rw[dD this.symm,dD h1,Bool.or_true]
theorem Sk {x:NV} (h:NOk x):AP ae 181 [x.av]=some (.bool (sj x.ds)):=by
 rw[qfv x h.len,Yt h.dg]
def s9 (n:Nat):AV:=if n < 18446744073709551616 then .tup [.int .u64 n,.bool true] else .tup [.int .u64 0,.bool false]
theorem YY (n:Nat):s8 (aC n)=s9 n:=by
 have hv:=gz n;have hd:=gu n;unfold s9;generalize he:aC n=l at *
 match l,hv,hd with
 | [],hv,_=>
  simp only[val] at hv;subst hv
  rfl
 | [d],hv,hd=>
  have:=(mE.1 hd).1;simp only[val] at hv;rw[an (by omega),s8,<- hv]
  rfl
 | [d,e],hv,hd=>
  have:=(mE.1 hd).1;have:=(mE.1 (mE.1 hd).2).1;simp only[val] at hv;rw[an (by omega),s8,<- hv];congr 4;omega
 | d::e::f::l,hv,hd=>
  have hl:2 < (aC n).length:=by rw[he];simp
  have:=Hz hl
  rw[ai (by omega),s8]
  ·intro h;cases h
  ·intro x h;cases h
  ·intro x y h;cases h
theorem qgL {x:NV} (h:NOk x):AP ae 182 [x.av]=some (s9 x.v):=by
 rw[qfw x h.len h.dg,lC h.dg,YY];rfl
theorem qw (sh:Sh) (z:Bool) (o:Own) (es:List AV):∀ m k,bG m (k+1) (.lst sh z o es)=some (.lst sh z o.fr es,[]):=by
 intro m k;cases o<;>rfl
theorem jT (k:IntKind) (n:Int):∀ m j,bG m (j+1) (.int k n)=some (.int k n,[]):=fun _ _=>rfl
theorem Mv (b:Bool):∀ m j,bG m (j+1) (.bool b)=some (.bool b,[]):=fun _ _=>rfl
theorem uR {a a' b b':AV} (ha:∀ m k,bG m (k+1) a=some (a',[])) (hb:∀ m k,bG m (k+1) b=some (b',[])):Fz (.tup [a,b]) (.tup [a',b']):=by
 intro m;show (eY (bG m 8) [a,b]).map _=_;simp[eY,ha m 7,hb m 7]
theorem wu {a a' b b' c c':AV} (ha:∀ m k,bG m (k+1) a=some (a',[])) (hb:∀ m k,bG m (k+1) b=some (b',[])) (hc:∀ m k,bG m (k+1) c=some (c',[])):Fz (.tup [a,b,c]) (.tup [a',b',c']):=by
 intro m;show (eY (bG m 8) [a,b,c]).map _=_;simp[eY,ha m 7,hb m 7,hc m 7]
theorem cO {C:Cfg} {f:Nat} {args:List AV} {m:af} (v v':AV) (hf:Fz v v') (hv:jd v'=true) (h:AC C f args []=some (v,m)):AP C f args=some v':=
 iK h (hf m) (by rw[hv,Bool.or_true])
theorem qx (x:NV):∀ m k,bG m (k+1) x.av=some (x.fr.av,[]):=qw _ _ _ _
theorem AH:∀ m k,bG m (k+1) au=some (au,[]):=qw _ _ _ _
def Bt:AV:=au
def Pg (x y:NV):AV:=if x.v < y.v then .tup [Bt,.int .i64 1] else .tup [NV.av ⟨false,.no,aC (x.v - y.v)⟩,.int .i64 0]
theorem Sa {x y:NV} (hx:NOk x) (hy:NOk y):AP ae 132 [x.av,y.av]=some (Pg x y):=by
 have iu:=BO x.ds;have lx:=hx.len;have e1:=tt hx.fr;have e2:=tt hy.fr;rw[show x.fr.v=x.v from rfl] at e1;rw[show y.fr.v=y.v from rfl] at e2;have rE:(aC x.v).length < 2 ^ 40:=by rw[NV.v,<- lC hx.dg];omega
 unfold Pg
 by_cases h:x.v < y.v
 ·rw[an h];refine cO _ _ (uR AH (jT _ _)) rfl (m:=[]) ?_;rw[RR,fG (cF x) (cF y),vV hx.fr hy.fr];simp only[aR,aa,bh,aA,gQ];rw[show x.fr.v=x.v from rfl,show y.fr.v=y.v from rfl,an h,an (by omega)]
 ·rw[ai h];have key:=qpl hx.dg hy.dg (vR h);rw[lC hx.dg,lC hy.dg,Jm] at key;refine cO _ _ (uR (qx ⟨false,.no,aC (x.v - y.v)⟩) (jT _ _)) rfl (m:=[none]) ?_;rw[RR,fG (cF x) (cF y),vV hx.fr hy.fr];simp only[aR,aa,bh,aA,gQ];rw[show x.fr.v=x.v from rfl,show y.fr.v=y.v from rfl,ai h,ai (by split<;>omega),cJ (cF x),e1];simp only[aR,aa,cJ (cF y),e2,iF];rw[wY (by omega) (by omega)];simp only[aa];have:=qfi ⟨x.z,.no,aC x.v⟩ ⟨y.z,.no,aC y.v⟩ [] (JW (aE ae.P f132.results.toList)) rE (gu _) (gu _) (aC x.v).length 0 (by simp);refine this.trans ?_;rw[qbC];have hm:(np [] (gH (aC x.v) (aC y.v) (aC x.v).length).1)[0]?=some (oc (gH (aC x.v) (aC y.v) (aC x.v).length).1):=rfl;have hp:=w5 (cp:=AP ae) (g:=164) hm;rw[BM] at hp;rw[show ([]:af).length=0 from rfl,hp,tt ⟨BL (gu _) (gu _) _,by simp only[BM];exact rE,by simp⟩];simp only[aR,aa,NV.v];rw[lC (BL (gu _) (gu _) _)] at key;rw[key]
  rfl
theorem qfm (x:NV) (d:Nat) (m:af) (K:KT) (hl:x.ds.length < 2 ^ 40) (dx:Dg x.ds) (hd:0 < d) (kJ:d < 4294967296):∀ j k:Nat,k+j=x.ds.length ->
  Gq x.av (dg d) (.arr m.length 0 x.ds.length none) (.int .u64 (iz x.ds d k).2) (.int .i64 ((j:Int) - 1)) (m++[oc (iz x.ds d k).1]) K
   = K (.exit 0) (K0 (.arr m.length 0 x.ds.length none) (.int .u64 (iz x.ds d x.ds.length).2) (m++[oc (iz x.ds d x.ds.length).1])):=by
 intro j
 induction j with
 | zero=>
  intro k hk;have:k=x.ds.length:=by omega
  subst this;rw[QS];simp[jZ,aw]
 | succ j ih=>
  intro k hk;have ih:=ih (k+1) (by omega);have hr:=Jb (a:=x.ds) hd k;have hq:=O8 (a:=x.ds) dx hd k j;have hlen:=xe x.ds d k;have hj:=dx j;have ej:x.ds.length - 1 - k=j:=by omega
  rw[QS,show ((j+1:Nat):Int) - 1=(j:Nat) by omega];simp only[iz,ej] at ih;generalize iz x.ds d k=t at *;simp (disch:=omega) only[Em,aa,aw,EL,mN,kN,my,EK,zu,BP,mz];rw[fZ (by omega),aa,lE hq,pj (Aa ..) (by omega)];simp (disch:=omega) only[aa,rF];rw[rY _ _ (aQ _)];simp only[pz,cZ];exact ih
theorem qgN {x:NV} {d:Nat} (hx:NOk x) (hd:0 < d) (kJ:d < 4294967296):AP ae 202 [x.av,dg d]=some (.tup [NV.av ⟨false,.no,aC (x.v / d)⟩,dg (x.v % d)]):=by
 have lx:=hx.len;obtain ⟨k1,k2⟩:=YU hx.dg hd;have hlt:val x.ds % d < d:=jY _ hd;refine cO _ _ (uR (qx ⟨false,.no,aC (x.v / d)⟩) (jT _ _)) rfl (m:=[none]) ?_;rw[qgq];simp only[iF,aa];rw[wY (by omega) (by omega)];simp only[aa];rw[rF (by omega)];simp only[aa];have:=qfm x d [] (Kg (aE ae.P f202.results.toList)) lx hx.dg hd kJ x.ds.length 0 (by omega);refine this.trans ?_;rw[qdx];have hm:(([]:af)++[oc (iz x.ds d x.ds.length).1])[0]?=some (oc (iz x.ds d x.ds.length).1):=rfl;have hp:=w5 (cp:=AP ae) (g:=164) hm;rw[xe] at hp;rw[Jc,lC (BI hx.dg hd _)] at k1;rw[show ([]:af).length=0 from rfl,hp,tt ⟨BI hx.dg hd _,by simp only[xe];exact lx,by simp⟩,k2];simp only[aR,aa,NV.v,mz];rw[k1,lE (Nat.lt_trans hlt kJ)]
 rfl
theorem qfn (x:NV) (s:Nat) (m:af) (K:KT) (hl:x.ds.length < 2 ^ 40) (dx:Dg x.ds) (hs:s < 32):∀ j i:Nat,i+j=x.ds.length ->
  Gs (.int .u64 s) (.arr m.length 0 (x.ds.length+1) none) x.av (.int .i64 x.ds.length) (.int .i64 i) (m++[oc (jD x.ds s i)]) K
   = K (.exit 0) (K1 (.arr m.length 0 (x.ds.length+1) none) (m++[oc (jD x.ds s x.ds.length)])):=by
 intro j
 induction j with
 | zero=>
  intro i hi;have:i=x.ds.length:=by omega
  subst this;rw[QT];simp[bh,aw]
 | succ j ih=>
  intro i hi;have ih:=ih (i+1) (by omega);have hlen:=zm x.ds s i;have hd:=dx i;have h1:=O7 (s:=s) dx i (by omega);have h2:=WK (x:=x.ds.getD i 0) hs;have h3:=MX (x:=x.ds.getD i 0) (s:=s) hd;have h4:2 ^ s<=2 ^ 31:=py (by omega) (by omega)
  have h6:x.ds.getD i 0 * 2 ^ s % 4294967296 % 2 ^ s=0:=by
   rw[<- zd hs,cM (2 ^ s),Nat.mul_mod_mul_right,Nat.mul_mod_left]
  rw[QT];simp only[jD] at ih;generalize jD x.ds s i=t at *;simp (disch:=omega) only[cX,aa,aA,an,mN,kN,fZ];rw[sT (Aa ..) (by omega)];simp only[dg,aa];rw[Zq hs hd,aa,Zp h1 h6 (by omega),aa,pj (Aa ..) (by omega)];simp (disch:=omega) only[aa,cB,Ax,qpQ hs,Jt,mz,fZ];rw[rY _ _ (aQ _)];simp only[pz,cZ];rw[pj (Aa ..) (by rw[a8];omega),rY _ _ (aQ _)];simp only[pz,cZ,aa];rw[lE (by omega:x.ds.getD i 0 * 2 ^ s / 4294967296 < 4294967296)];exact ih
theorem Sn {x:NV} {s:Nat} (m:af) (hx:NOk x) (hs:s < 32):AC ae 204 [x.av,.int .u64 s] m=some (.arr m.length 0 (x.ds.length+1) none,m++[oc (jD x.ds s x.ds.length)]):=by
 have lx:=hx.len;rw[qgs];simp only[iF,aa];rw[cB (by omega),aa,wY (by omega) (by omega)];simp only[aa];refine (qfn x s m _ lx hx.dg hs x.ds.length 0 (by omega)).trans ?_;rw[qdA]
def lz (x:Nat):Nat:=31 - Nat.log2 x
theorem qm7 {x k:Nat} (h:2 ^ k<=x) (h':x < 2 ^ (k+1)):Nat.log2 x=k:=by
 have hx:x≠0:=by have:=uG k;omega
 exact (Nat.log2_eq_iff hx).2 ⟨h,h'⟩
def Ir:ByteArray:=⟨⟨[0,1,2,2,3,3,3,3,4,4,4,4,4,4,4,4,5,5,5,5,5,5,5,5,5,5,5,5,5,5,5,5,6,6,6,6,6,6,6,6,6,6,6,6,6,6,6,6,6,6,6,6,6,6,6,6,6,6,6,6,6,6,6,6,7,7,7,7,7,7,7,7,7,7,7,7,7,7,7,7,7,7,7,7,7,7,7,7,7,7,7,7,7,7,7,7,7,7,7,7,7,7,7,7,7,7,7,7,7,7,7,7,7,7,7,7,7,7,7,7,7,7,7,7,7,7,7,7,8,8,8,8,8,8,8,8,8,8,8,8,8,8,8,8,8,8,8,8,8,8,8,8,8,8,8,8,8,8,8,8,8,8,8,8,8,8,8,8,8,8,8,8,8,8,8,8,8,8,8,8,8,8,8,8,8,8,8,8,8,8,8,8,8,8,8,8,8,8,8,8,8,8,8,8,8,8,8,8,8,8,8,8,8,8,8,8,8,8,8,8,8,8,8,8,8,8,8,8,8,8,8,8,8,8,8,8,8,8,8,8,8,8,8,8,8,8,8,8,8,8,8,8,8,8,8,8]⟩⟩
theorem qm0 (v:AV):sR (.str ⟨⟨[0,1,2,2,3,3,3,3,4,4,4,4,4,4,4,4,5,5,5,5,5,5,5,5,5,5,5,5,5,5,5,5,6,6,6,6,6,6,6,6,6,6,6,6,6,6,6,6,6,6,6,6,6,6,6,6,6,6,6,6,6,6,6,6,7,7,7,7,7,7,7,7,7,7,7,7,7,7,7,7,7,7,7,7,7,7,7,7,7,7,7,7,7,7,7,7,7,7,7,7,7,7,7,7,7,7,7,7,7,7,7,7,7,7,7,7,7,7,7,7,7,7,7,7,7,7,7,7,8,8,8,8,8,8,8,8,8,8,8,8,8,8,8,8,8,8,8,8,8,8,8,8,8,8,8,8,8,8,8,8,8,8,8,8,8,8,8,8,8,8,8,8,8,8,8,8,8,8,8,8,8,8,8,8,8,8,8,8,8,8,8,8,8,8,8,8,8,8,8,8,8,8,8,8,8,8,8,8,8,8,8,8,8,8,8,8,8,8,8,8,8,8,8,8,8,8,8,8,8,8,8,8,8,8,8,8,8,8,8,8,8,8,8,8,8,8,8,8,8,8,8,8,8,8,8,8]⟩⟩) v=sR (.str Ir) v:=rfl
theorem qmZ:∀ x:Fin 256,(Ir[x.1]?).map (fun b=>b.toNat)=some (if x.1=0 then 0 else Nat.log2 x.1+1):=by decide +kernel
theorem Iq {x:Nat} (h:0 < x) (h':x < 256):sR (.str Ir) (.int .u8 x)=some (.int .u8 (Nat.log2 x+1:Nat)):=by
 have:=qmZ ⟨x,h'⟩;simp only[ai (Nat.pos_iff_ne_zero.1 h)] at this;rw[sR,an (by omega),cK]
 cases he:Ir[x]? with
 | none=>rw[he] at this;cases this
 | some b=>
  rw[he] at this;simp only[aR,bM] at this ⊢;rw[this]
theorem Hr {a:Nat} {k:IntKind} (h:a < 256):bn .u8 (.int k a)=some (.int .u8 a):=by
 rw[lZ,show IntKind.wrap .u8 (a:Int)=(a:Int) % 256 from rfl,Int.emod_eq_of_lt (by omega) (by omega)]
theorem Hq {a:Nat} {k:IntKind} (h:a < 9223372036854775808):bn .i64 (.int k a)=some (.int .i64 a):=by
 rw[lZ,iQ (by omega) (by omega)]
theorem N6 {x k:Nat} (h:2 ^ k<=x):Nat.log2 x=Nat.log2 (x / 2 ^ k)+k:=by
 have hp:=uG k
 have hy:x / 2 ^ k≠0:=by
  have:0 < x / 2 ^ k:=Nat.div_pos h hp;omega
 have h1:=Nat.log2_self_le hy;have h2:=Nat.lt_log2_self (n:=x / 2 ^ k)
 apply qm7
 ·rw[qY];exact (GG hp).1 h1
 ·rw[show Nat.log2 (x / 2 ^ k)+k+1=Nat.log2 (x / 2 ^ k)+1+k by omega,qY];exact (uE hp).1 h2
theorem qpP {tk:TK} {a:Nat}:ag tk .shr (.int .u32 a) (.int .u64 16)=some (.int .u32 (a / 65536:Nat)):=Po (s:=16) (by omega)
theorem Zr {tk:TK} {a:Nat}:ag tk .shr (.int .u32 a) (.int .u64 8)=some (.int .u32 (a / 256:Nat)):=Po (s:=8) (by omega)
theorem Iw {x:Nat} (h:x < 256):Nat.log2 x < 8:=by
 by_cases h0:x=0
 ·subst h0;decide
 ·exact (Nat.log2_lt h0).2 h
theorem qgo {x:Nat} (m:af) (h:0 < x) (h':x < 4294967296):AC ae 199 [dg x] m=some (.int .i64 (Nat.log2 x+1:Nat),m):=by
 have g1:ag .other .geq (dg x) (.int .u32 65536)=some (.bool (decide (x≥65536))):=IE (b:=65536);have g2:∀ y:Nat,ag .other .geq (.int .u32 y) (.int .u32 256)=some (.bool (decide (y≥256))):=fun y=>IE (b:=256);have g3:ag .other .geq (dg x) (.int .u32 256)=some (.bool (decide (x≥256))):=IE (b:=256);have a1:ag .other .add (.int .i64 16) (.int .i64 8)=some (.int .i64 24):=rfl;have a2:ag .other .add (.int .i64 0) (.int .i64 8)=some (.int .i64 8):=rfl;have b1:∀ y:Nat,y < 300->ag .other .add (.int .i64 24) (.int .i64 y)=some (.int .i64 (24+y:Nat)):=fun y h=>kM (a:=24) (by omega);have b2:∀ y:Nat,y < 300->ag .other .add (.int .i64 16) (.int .i64 y)=some (.int .i64 (16+y:Nat)):=fun y h=>kM (a:=16) (by omega);have b3:∀ y:Nat,y < 300->ag .other .add (.int .i64 8) (.int .i64 y)=some (.int .i64 (8+y:Nat)):=fun y h=>kM (a:=8) (by omega);have b4:∀ y:Nat,y < 300->ag .other .add (.int .i64 0) (.int .i64 y)=some (.int .i64 (0+y:Nat)):=fun y h=>kM (a:=0) (by omega);have s1:ag .other .shr (dg x) (.int .u64 16)=some (.int .u32 (x / 65536:Nat)):=qpP;have s2:ag .other .shr (dg x) (.int .u64 8)=some (.int .u32 (x / 256:Nat)):=Zr
 have k0:bn .u8 (dg x)=if x < 256 then some (.int .u8 x) else bn .u8 (dg x):=by
  split
  ·rename_i h;exact Hr h
  ·rfl
 rw[qgn];simp only[qm0,g1,g2,g3,a1,a2,s1,s2,aa,aA,Zr]
 by_cases c1:x≥65536
 ·rw[an c1];have e1:=N6 (x:=x) (k:=16) (by omega);rw[show 2 ^ 16=65536 from rfl] at e1
  by_cases c2:x / 65536≥256
  ·rw[an c2];have e2:=N6 (x:=x / 65536) (k:=8) (by omega);rw[show 2 ^ 8=256 from rfl] at e2;have l8:=Iw (x:=x / 65536 / 256) (by omega);rw[Hr (by omega),aa,Iq (by omega) (by omega),aa,Hq (by omega),aa,b1 _ (by omega),aa];congr 4;omega
  ·rw[ai c2];have l8:=Iw (x:=x / 65536) (by omega);rw[Hr (by omega),aa,Iq (by omega) (by omega),aa,Hq (by omega),aa,b2 _ (by omega),aa];congr 4;omega
 ·rw[ai c1]
  by_cases c2:x≥256
  ·rw[an c2];have e2:=N6 (x:=x) (k:=8) (by omega);rw[show 2 ^ 8=256 from rfl] at e2;have l8:=Iw (x:=x / 256) (by omega);rw[Hr (by omega),aa,Iq (by omega) (by omega),aa,Hq (by omega),aa,b3 _ (by omega),aa];congr 4;omega
  ·rw[ai c2];have l8:=Iw (x:=x) (by omega);rw[k0,an (by omega),aa,Iq (by omega) (by omega),aa,Hq (by omega),aa,b4 _ (by omega),aa];congr 4;omega
theorem qgM {x:Nat} (h:0 < x) (h':x < 4294967296):AP ae 199 [dg x]=some (.int .i64 (Nat.log2 x+1:Nat)):=
 iK (qgo [] h h') (gh _ _ _) (by simp[jd])
theorem qgO {x:Nat} (h:0 < x) (h':x < 4294967296):AP ae 203 [dg x]=some (.int .i64 (lz x:Nat)):=by
 have hl:Nat.log2 x < 32:=(Nat.log2_lt (by omega)).2 h';refine iK (m:=[]) ?_ (gh _ _ _) (by simp[jd]);rw[qgr,cJ (a:=dg x) (a':=dg x) (gh .u32 x),qgM h h'];simp only[aR,aa];have e:ag .other .sub (.int .i64 32) (.int .i64 (Nat.log2 x+1:Nat))=some (.int .i64 (32 - (Nat.log2 x+1):Nat)):=nk (a:=32) (by omega) (by omega);have e2:32 - (Nat.log2 x+1)=lz x:=by rw[lz];omega
 rw[e,e2]
 rfl
end Go.Ab
namespace Go.Ab
open Go.Proofs.Tryz
theorem qhd (v:NV) (u:List Nat) (m:af) (K:KT) (x9 aX:AV) (nu L n j top v1 v2 u0 p lo vlo q:Nat)
  (hn:v.ds.length=n) (ng:2<=n) (hm:m[nu]?=some (oc u)) (hL:u.length=L) (yo:L < 2 ^ 42) (Vo:j+n < L) (du:Dg u) (dv:Dg v.ds)
  (e1:v.ds.getD (n - 1) 0=v1) (e2:v.ds.getD (n - 2) 0=v2) (e3:u.getD (j+n - 2) 0=u0)
  (ke:2147483648<=v1) (mM:top<=v1 * 4294967296+4294967295) (gY:lo < p) (VT:vlo < p)
  (hq:q=((top * 4294967296+u0) * p+lo) / ((v1 * 4294967296+v2) * p+vlo)) (hqB:q < 4294967296) :
  ∀ k g r:Nat,4294967296<=r+k * v1->r < 4294967296->g * v1+r=top->q<=g ->
  ∃ g',q<=g'/\g' < 4294967296/\g' * ((v1 * 4294967296+v2) * p+vlo) < ((top * 4294967296+u0) * p+lo)+((v1 * 4294967296+v2) * p+vlo) /\
   zV x9 (.arr nu 0 L none) v.av (.int .i64 n) aX (.int .i64 j) (.int .u64 g) (.int .u64 r) m K
    = K (.exit 3) (xO x9 (.arr nu 0 L none) v.av (.int .i64 n) aX (.int .i64 j) (.int .u64 g') m):=by
 have qqq:v1 < 4294967296:=e1▸dv (n - 1);have qmv:v2 < 4294967296:=e2▸dv (n - 2);have qmu:u0 < 4294967296:=e3▸du (j+n - 2);intro k
 induction k with
 | zero=>intro g r h1 h2;omega
 | succ k ih=>
  intro g r h1 h2 h3 h4
  have hgB:g < 4294967296+2:=by
   have:g * v1 < (4294967296+2) * v1:=by omega
   exact GH this
  have DL:g * v2<=4294967297 * 4294967295:=qX (by omega) (by omega)
  have dec:q < g->∃ g',q<=g'/\g' < 4294967296/\g' * ((v1 * 4294967296+v2) * p+vlo) < ((top * 4294967296+u0) * p+lo)+((v1 * 4294967296+v2) * p+vlo) /\
    (if r+v1≥4294967296 then K (.exit 3) (xO x9 (.arr nu 0 L none) v.av (.int .i64 n) aX (.int .i64 j) (.int .u64 (g - 1:Nat)) m)
     else zV x9 (.arr nu 0 L none) v.av (.int .i64 n) aX (.int .i64 j) (.int .u64 (g - 1:Nat)) (.int .u64 (r+v1:Nat)) m K)
    = K (.exit 3) (xO x9 (.arr nu 0 L none) v.av (.int .i64 n) aX (.int .i64 j) (.int .u64 g') m):=by
   intro vm;obtain ⟨g1,uX⟩:∃ g1,g=g1+1:=⟨g - 1,by omega⟩;subst uX;rw[gO,px] at h3;rw[pw]
   by_cases hb:r+v1≥4294967296
   ·rw[an hb]
    have hlt:g1 < 4294967296:=by
     have:g1 * v1 < 4294967296 * v1:=by omega
     exact GH this
    refine ⟨g1,by omega,hlt,?_,rfl⟩;have h5:g1 * v2<=4294967296 * 4294967295:=qX (by omega) (by omega);exact UI (r:=r+v1) (top:=top) (u0:=u0) (by omega) (by omega) hlt VT (by omega) rfl rfl
   ·rw[ai hb];rw[gO] at h1;exact ih g1 (r+v1) (by omega) (by omega) (by omega) (by omega)
  rw[qfl];simp (disch:=omega) only[qns,aa,aA,Ju,oY,mN,kN,my,nV,e1]
  by_cases c1:g≥4294967296
  ·rw[an c1];exact dec (by omega)
  ·rw[ai c1];simp (disch:=omega) only[VZ,aa,mN,kN,e2]
   rw[my v2 qmv,aa,EJ (by omega),aa,EL (by omega),aa,kM (by omega),aa,VZ (by omega) (by omega),aa,fZ (by omega),aa,
    sT hm (by omega),aa,e3,my u0 qmu,aa,EK (by omega) (by omega),aa,Bq,aa,aA]
   by_cases c2:g * v2 > r * 4294967296+u0
   ·have vm:=qln (q:=q) (vlo:=vlo) h3 c2 gY (by rw[hq];exact GF _ _);rw[an c2,Ju (by omega) (by omega),aa];exact dec vm
   ·rw[ai c2];exact ⟨g,h4,by omega,UI h3 (vR c2) (by omega) VT (by omega) rfl rfl,rfl⟩
theorem qhe (v:NV) (u:List Nat) (m0:af) (K:KT) (x9 aX:AV) (nu L n j g:Nat)
  (hn:v.ds.length=n) (hm:m0[nu]?=some (oc u)) (hL:u.length=L) (yo:L < 2 ^ 42) (Vo:j+n < L) (du:Dg u) (dv:Dg v.ds) (hg:g < 4294967296):∀ r i:Nat,i+r=n ->
  Cn x9 (.arr nu 0 L none) v.av (.int .i64 n) aX (.int .i64 j) (.int .u64 g) (.int .u64 (jk v.ds g j i u).2.1) (.int .u64 (jk v.ds g j i u).2.2) (.int .i64 n) (.int .i64 i) (m0.set nu (oc (jk v.ds g j i u).1)) K
   = K (.exit 5) (KV x9 (.arr nu 0 L none) v.av (.int .i64 n) aX (.int .i64 j) (.int .u64 g) (.int .u64 (jk v.ds g j n u).2.1) (.int .u64 (jk v.ds g j n u).2.2) (m0.set nu (oc (jk v.ds g j n u).1))):=by
 have Nl:nu < m0.length:=by
  apply qj;intro h;rw[n5 (by omega)] at hm;cases hm
 intro r
 induction r with
 | zero=>
  intro i hi;have:i=n:=by omega
  subst this;rw[QL];simp[bh,aw]
 | succ r ih=>
  intro i hi;have ih:=ih (i+1) (by omega);have hlen:=Ej v.ds g j u i;have hb:=Ei v.ds g j u i;have hc:=IC dv hg j u i;have hd:=ID (v:=v.ds) (g:=g) du j i (i+j);have hvd:=dv i;have DL:g * v.ds.getD i 0<=4294967295 * 4294967295:=qX (by omega) (by omega);have s1:ag .other .shl (.int .u64 1) (.int .u64 32)=some (.int .u64 (4294967296:Nat)):=rfl;have s0:ag .other .shl (.int .u64 0) (.int .u64 32)=some (.int .u64 (0:Nat)):=rfl;rw[QL];simp only[jk] at ih;generalize jk v.ds g j i u=t at *;obtain ⟨t,b,c⟩:=t;simp only[] at *;have aU:(m0.set nu (oc t))[nu]?=some (oc t):=xI Nl;simp (disch:=omega) only[cX,aa,aA,an,mN,kN,my,EJ,nV,qpR,kM,fZ,sT aU,Jt,cB]
  by_cases h:t.getD (i+j) 0 < (c+g * v.ds.getD i 0) % 4294967296+b
  ·rw[an h];rw[an h] at ih;rw[s1,aa,nV (by omega),aa,zw (by omega) (by omega),aa,mz,aa,lE (by omega),pj aU (by omega),xL];exact ih
  ·rw[ai h];rw[ai h] at ih;rw[s0,aa,nV (by omega),aa,zw (by omega) (by omega),aa,mz,aa,lE (by omega),pj aU (by omega),xL];exact ih
theorem qhf (v:NV) (u:List Nat) (m0:af) (K:KT) (x9 aX be:AV) (nu L n j:Nat)
  (hn:v.ds.length=n) (hm:m0[nu]?=some (oc u)) (hL:u.length=L) (yo:L < 2 ^ 42) (Vo:j+n < L) (du:Dg u) (dv:Dg v.ds):∀ r i:Nat,i+r=n ->
  Gl x9 (.arr nu 0 L none) v.av (.int .i64 n) aX (.int .i64 j) be (.int .u64 (kn v.ds j i u).2) (.int .i64 n) (.int .i64 i) (m0.set nu (oc (kn v.ds j i u).1)) K
   = K (.exit 7) (KW x9 (.arr nu 0 L none) v.av (.int .i64 n) aX (.int .i64 j) be (.int .u64 (kn v.ds j n u).2) (m0.set nu (oc (kn v.ds j n u).1))):=by
 have Nl:nu < m0.length:=by
  apply qj;intro h;rw[n5 (by omega)] at hm;cases hm
 intro r
 induction r with
 | zero=>
  intro i hi;have:i=n:=by omega
  subst this;rw[QM];simp[bh,aw]
 | succ r ih=>
  intro i hi;have ih:=ih (i+1) (by omega);have hlen:=C3 v.ds j u i;obtain ⟨hd,hc⟩:=Hj dv du j i;have hd:=hd (i+j);have hvd:=dv i;rw[QM];simp only[kn] at ih;generalize kn v.ds j i u=t at *;obtain ⟨t,c⟩:=t;simp only[] at *;have aU:(m0.set nu (oc t))[nu]?=some (oc t):=xI Nl;simp (disch:=omega) only[cX,aa,aA,an,mN,kN,my,nV,kM,fZ,sT aU,Jt,cB,mz,pj aU,xL];exact ih
theorem qpS {tk:TK} {t y:Nat} (ht:t < 4294967296) (hy:y<=4294967296):∃ w,ag tk .sub (.int .u64 t) (.int .u64 y)=some w/\bn .u32 w=some (.int .u32 ((t+4294967296 - y) % 4294967296:Nat)):=by
 refine ⟨_,pB _ _ _ _,?_⟩;rw[lZ,xm,ZF];congr 2;omega
theorem qmN {v u:List Nat} {n j:Nat} (hv:Dg v) (hu:Dg u) (hn:v.length=n) (ng:2<=n) :
  val v=(v.getD (n - 1) 0 * 4294967296+v.getD (n - 2) 0) * 4294967296 ^ (n - 2)+vs v (n - 2) /\
  wn u j (n+1)=((u.getD (j+n) 0 * 4294967296+u.getD (j+n - 1) 0) * 4294967296+u.getD (j+n - 2) 0) * 4294967296 ^ (n - 2)+wn u j (n - 2):=by
 obtain ⟨k,rfl⟩:∃ k,n=k+2:=⟨n - 2,by omega⟩;have e1:k+2 - 1=k+1:=by omega
 have e2:k+2 - 2=k:=by omega
 have e3:j+(k+2) - 1=j+(k+1):=by omega
 have e4:j+(k+2) - 2=j+k:=by omega
 rw[e1,e2,e3,e4]
 constructor
 ·rw[<- jn (Nat.le_of_eq hn),jO,jO,jR,gO,cM (4294967296 ^ k) (v.getD k 0),cM (4294967296 ^ k * 4294967296),cM (4294967296 ^ k),dZ];omega
 ·rw[wn,wn,wn,jR (m:=k+1),jR];rw[gO,gO,gO,cM (4294967296 ^ k) (u.getD (j+k) 0),cM (4294967296 ^ k * 4294967296) (u.getD (j+(k+1)) 0),cM (4294967296 ^ k * 4294967296 * 4294967296),cM (4294967296 ^ k),];generalize 4294967296 ^ k=p;have h1:u.getD (j+(k+1)) 0 * (4294967296 * p)=u.getD (j+(k+1)) 0 * 4294967296 * p:=(dZ _ _ _).symm
  have h2:u.getD (j+(k+2)) 0 * (4294967296 * p * 4294967296)=u.getD (j+(k+2)) 0 * 4294967296 * 4294967296 * p:=by
   rw[Nat.mul_right_comm 4294967296 p,<- dZ,<- dZ]
  rw[h1,h2];omega
theorem qmM {v u0 u q:List Nat} {n m j:Nat} (hv:Dg v) (hn:v.length=n) (ng:2<=n) (h:KInv v u0 n m (j+1) u q) :
  u.getD (j+n) 0<=v.getD (n - 1) 0/\wn u j (n+1) / val v < 4294967296/\0 < val v:=by
 have hlt:=h.lt;have hp:0 < val v:=by omega
 obtain ⟨k,rfl⟩:∃ k,n=k+1:=⟨n - 1,by omega⟩;have hV:val v=vs v k+4294967296 ^ k * v.getD k 0:=by rw[<- jn (Nat.le_of_eq hn),jO]
 have h1:=xj hv k
 refine ⟨?_,?_,hp⟩
 ·rw[pw];rw[wn,show j+1+k=j+(k+1) by omega] at hlt;apply vR;intro hc;have:4294967296 ^ k * (v.getD k 0+1)<=4294967296 ^ k * u.getD (j+(k+1)) 0:=kG _ hc;rw[gB] at this;omega
 ·rw[uE hp,EW];have h2:=h.du j;omega
theorem qkO {top u0 v1 v2 p lo vlo:Nat} (ke:0 < v1) (gY:lo < p) (hu:u0 < 4294967296) :
  ((top * 4294967296+u0) * p+lo) / ((v1 * 4294967296+v2) * p+vlo)<=top / v1:=by
 have h:=GF ((top * 4294967296+u0) * p+lo) ((v1 * 4294967296+v2) * p+vlo);generalize ((top * 4294967296+u0) * p+lo) / ((v1 * 4294967296+v2) * p+vlo)=q at *;rw[GG ke]
 have h1:(top * 4294967296+u0) * p+lo < (top+1) * 4294967296 * p:=by
  have:(top * 4294967296+u0+1) * p<=(top+1) * 4294967296 * p:=iM _ (by omega);rw[gO _ 1,px] at this;omega
 have h2:q * v1 * 4294967296 * p<=q * ((v1 * 4294967296+v2) * p+vlo):=by
  rw[dZ q,dZ q];exact kG _ (dY (iM _ (Nat.le_add_right _ _)) (Nat.le_add_right _ _))
 have h3:q * v1 * 4294967296 * p < (top+1) * 4294967296 * p:=by omega
 have h4:=GH (GH h3);omega
def M3 (u q:List Nat):af:=[oc u,none,oc q]
theorem qhc (v:NV) (u0:List Nat) (K:KT) (x9:AV) (L n mm:Nat)
  (hn:v.ds.length=n) (ng:2<=n) (dv:Dg v.ds) (hL:L=mm+n) (yo:L < 2 ^ 42) (ke:2147483648<=v.ds.getD (n - 1) 0):∀ (j:Nat) (u q:List Nat),j<=mm->KInv v.ds u0 n mm j u q ->
  ∃ u' q',KInv v.ds u0 n mm 0 u' q'/\Cm x9 (.arr 0 0 L none) v.av (.int .i64 n) (.arr 2 0 mm none) (.int .i64 ((j:Int) - 1)) (M3 u q) K
   = K (.exit 1) (KU x9 (.arr 0 0 L none) (.int .i64 n) (.arr 2 0 mm none) (M3 u' q')):=by
 intro j
 induction j with
 | zero=>
  intro u q _ hI;refine ⟨u,q,hI,?_⟩;rw[QK];simp[jZ,aw]
 | succ j ih=>
  intro u q hj hI;have hu:=hI.du;have Vx:=hI.lu;have yA:=hI.lq;obtain ⟨p1,p2,p3⟩:=qmM dv hn ng hI;obtain ⟨t1,t2⟩:=qmN (j:=j) dv hu hn ng;have d1:=hu (j+n);have d2:=hu (j+n - 1);have d3:=dv (n - 1);have aU:(M3 u q)[0]?=some (oc u):=rfl;have Dy:=p3;rw[QK,show ((j+1:Nat):Int) - 1=(j:Nat) by omega];simp (disch:=omega) only[Em,aa,aw,kM,fZ,sT aU,my,EL,oY,EK,mN,kN,zu,BP];have kC:=xj dv (n - 2);have hws:=zx hu j (n - 2);have HV:=uD (u.getD (j+n) 0 * 4294967296+u.getD (j+n - 1) 0) (v.ds.getD (n - 1) 0);have hrm:(u.getD (j+n) 0 * 4294967296+u.getD (j+n - 1) 0) % v.ds.getD (n - 1) 0 < v.ds.getD (n - 1) 0:=jY _ (by omega);have hq:wn u j (n+1) / val v.ds=(((u.getD (j+n) 0 * 4294967296+u.getD (j+n - 1) 0) * 4294967296+u.getD (j+n - 2) 0) * 4294967296 ^ (n - 2)+wn u j (n - 2)) / ((v.ds.getD (n - 1) 0 * 4294967296+v.ds.getD (n - 2) 0) * 4294967296 ^ (n - 2)+vs v.ds (n - 2)):=by rw[t1,t2]
  have hle:u.getD (j+n) 0 * 4294967296+u.getD (j+n - 1) 0<=v.ds.getD (n - 1) 0 * 4294967296+4294967295:=by omega
  have h0:4294967296<=(u.getD (j+n) 0 * 4294967296+u.getD (j+n - 1) 0) % v.ds.getD (n - 1) 0+2 * v.ds.getD (n - 1) 0:=by omega
  have h1:(u.getD (j+n) 0 * 4294967296+u.getD (j+n - 1) 0) % v.ds.getD (n - 1) 0 < 4294967296:=by omega
  have h2:(u.getD (j+n) 0 * 4294967296+u.getD (j+n - 1) 0) / v.ds.getD (n - 1) 0 * v.ds.getD (n - 1) 0+(u.getD (j+n) 0 * 4294967296+u.getD (j+n - 1) 0) % v.ds.getD (n - 1) 0=u.getD (j+n) 0 * 4294967296+u.getD (j+n - 1) 0:=by rw[cM];exact HV
  have h3:wn u j (n+1) / val v.ds<=(u.getD (j+n) 0 * 4294967296+u.getD (j+n - 1) 0) / v.ds.getD (n - 1) 0:=by
   rw[t1,t2];exact qkO (by omega) hws (hu _)
  obtain ⟨g,g1,g2,g3,g4⟩:=qhd v u (M3 u q) (Ka K) x9 (.arr 2 0 mm none) 0 L n j (u.getD (j+n) 0 * 4294967296+u.getD (j+n - 1) 0) (v.ds.getD (n - 1) 0) (v.ds.getD (n - 2) 0) (u.getD (j+n - 2) 0) (4294967296 ^ (n - 2)) (wn u j (n - 2)) (vs v.ds (n - 2))
   (wn u j (n+1) / val v.ds) hn ng aU (by omega) yo (by omega) hu dv rfl rfl rfl ke hle hws kC hq p2 2 ((u.getD (j+n) 0 * 4294967296+u.getD (j+n - 1) 0) / v.ds.getD (n - 1) 0) ((u.getD (j+n) 0 * 4294967296+u.getD (j+n - 1) 0) % v.ds.getD (n - 1) 0) h0 h1 h2 h3
  rw[<- t1,<- t2] at g3;obtain ⟨s1,s2,s3,s4,s5⟩:=qmL dv hu hn (by omega) g2 p3 g1 g3;have Dx:=KInv.step dv hn (by omega) hI s1 s2 s3 s4 s5 p3;have yu:=Dx.dq j;have qqf:=Dx.lq;rw[rm (by omega)] at yu;obtain ⟨u',q',i1,i2⟩:=ih _ _ (by omega) Dx;refine ⟨u',q',i1,g4.trans ?_⟩;rw[qc4];have m0:=qhe v u (M3 u q) (Kb K) x9 (.arr 2 0 mm none) 0 L n j g hn aU (by omega) yo (by omega) hu dv g2 n 0 (by omega)
  refine Eq.trans ?_ (m0.trans ?_)
  ·rfl
  rw[qc9];have hb:=Ei v.ds g j u n;have hc:=IC dv g2 j u n;have hd:=ID (v:=v.ds) (g:=g) hu j n;have hl:=Ej v.ds g j u n;have qmx:=Og (v:=v.ds) (g:=g) hu j n (by omega);unfold yS at i2 yu;simp only[] at i2 yu;generalize jk v.ds g j n u=t at *;obtain ⟨t,b,c⟩:=t;simp only[] at *;have hM:(M3 u q).set 0 (oc t)=M3 t q:=rfl;have Vj:(M3 t q)[0]?=some (oc t):=rfl;have NB:∀ l r:List Nat,(M3 l q).set 0 (oc r)=M3 r q:=fun _ _=>rfl;have AY:∀ l r:List Nat,(M3 l r)[2]?=some (oc r):=fun _ _=>rfl;have DY:∀ l r p:List Nat,(M3 l r).set 2 (oc p)=M3 l p:=fun _ _ _=>rfl;rw[hM];have hd4:=hd (j+n);obtain ⟨w,w1,w2⟩:=qpS (tk:=.other) (t:=t.getD (j+n) 0) (y:=c+b) hd4 (by omega);simp (disch:=omega) only[nV,aa,kM,fZ,sT Vj,my,cX,w1,w2,pj Vj,NB];rw[aA]
  by_cases p5:t.getD (j+n) 0 < c+b
  ·rw[an p5];rw[an p5] at i2 yu;have U4:Dg (t.set (j+n) (t.getD (j+n) 0+4294967296 - (c+b))):=hd.set _ _ (by omega);have m1:=qhf v (t.set (j+n) (t.getD (j+n) 0+4294967296 - (c+b))) (M3 (t.set (j+n) (t.getD (j+n) 0+4294967296 - (c+b))) q) (Kc K) x9 (.arr 2 0 mm none) (.int .u64 (g - 1:Nat)) 0 L n j hn rfl (by rw[a8];omega) yo (by omega) U4 dv n 0 (by omega);have ha:=Hj dv U4 j n;have cH:=C3 v.ds j (t.set (j+n) (t.getD (j+n) 0+4294967296 - (c+b))) n
   have Vc:0 < g:=by
    apply oP;intro e0;rw[e0,xN,jF] at qmx;have hlt:=zx hd j n;have h9:4294967296 ^ n * 1<=4294967296 ^ n * (c+b):=kG _ (by omega);omega
   rw[show (t.getD (j+n) 0+4294967296 - (c+b)) % 4294967296=t.getD (j+n) 0+4294967296 - (c+b) by omega,Ju (by omega) (by omega),aa];rw[a8] at cH
   refine Eq.trans ?_ (m1.trans ?_)
   ·rfl
   generalize kn v.ds j n (t.set (j+n) (t.getD (j+n) 0+4294967296 - (c+b)))=w at *;obtain ⟨w,x⟩:=w;simp only[] at *;obtain ⟨a1,a2⟩:=ha;rw[NB,qdf];have Vk:(M3 w q)[0]?=some (oc w):=rfl
   rw[kM (by omega),aa,fZ (by omega),aa,sT Vk (by omega),aa,mz,aa,lE (by omega:x < 4294967296),dg,qpN,aa,aa,
    pj Vk (by omega),NB,aa,mz,aa,fZ (by omega),aa,pj (AY _ _) (by omega),DY,aa,rF (by omega),aa]
   rw[lE (by omega:g - 1 < 4294967296)];exact i2
  ·rw[ai p5];rw[ai p5] at i2 yu;rw[mz,aa,pj (AY _ _) (by omega),DY,aa,rF (by omega),aa];rw[show (t.getD (j+n) 0+4294967296 - (c+b)) % 4294967296=t.getD (j+n) 0 - (c+b) by omega,lE g2];exact i2
theorem qhg (u q:List Nat) (K:KT) (aX:AV) (s L n:Nat) (du:Dg u) (hL:u.length=L) (yo:L < 2 ^ 42) (hn:n < L) (hs:s < 32):∀ r i:Nat,i+r=n ->
  Co (.int .u64 s) (.arr 0 0 L none) aX (.arr 3 0 n none) (.int .i64 n) (.int .i64 i) (M3 u q++[oc (lD u s i++List.replicate r 0)]) K
   = K (.exit 9) (KX aX (.arr 3 0 n none) (M3 u q++[oc (lD u s n)])):=by
 intro r
 induction r with
 | zero=>
  intro i hi;have:i=n:=by omega
  subst this;rw[QN];simp[bh,aw]
 | succ r ih=>
  intro i hi;have ih:=ih (i+1) (by omega);have hlen:=EM u s i;have yt:=du i;have DF:=du (i+1);have b1:=Zv hs yt;have b2:=Zu (y:=u.getD (i+1) 0) hs yt;have b3:u.getD (i+1) 0 * 2 ^ (32 - s) % 4294967296 % 2 ^ (32 - s)=0:=by rw[Ps hs,Nat.mul_mod_left]
  have HZ:∀ l,(M3 u q++[oc l])[0]?=some (oc u):=fun _=>rfl;have AY:∀ l,(M3 u q++[oc l])[3]?=some (oc l):=fun _=>rfl;have DY:∀ l l',(M3 u q++[oc l]).set 3 (oc l')=M3 u q++[oc l']:=fun _ _=>rfl
  have yM:∀ x,(lD u s i++List.replicate (r+1) 0).set i x=lD u s i++x::List.replicate r 0:=by
   intro x;rw[rY _ _ (by omega),hlen,pz,xK,cZ]
  have qmi:∀ x y,(lD u s i++x::List.replicate r 0).set i y=lD u s i++y::List.replicate r 0:=by
   intro x y;rw[rY _ _ (by omega),hlen,pz,cZ]
  have qmj:∀ x,(lD u s i++x::List.replicate r 0).getD i 0=x:=by
   intro x;rw[aS,rS (by omega),hlen,pz]
   rfl
  have nc:i < (lD u s i++List.replicate (r+1) 0).length:=by rw[aI,hlen,uy];omega
  have iX:∀ x,i < (lD u s i++x::List.replicate r 0).length:=by intro x;rw[aI,hlen,aJ,uy];omega
  rw[lD,gA,cn,bV] at ih
  rw[QN,cX,aa,aA,an (by omega),fZ (by omega),aa,sT (HZ _) (by omega),aa,dg,Po hs,aa,fZ (by omega),aa,
   pj (AY _) nc,DY,yM,aa,vx,aa,aA]
  by_cases h0:s > 0
  ·rw[an h0];have e32:ag .other .sub (.int .u64 32) (.int .u64 s)=some (.int .u64 (32 - s:Nat)):=zw (a:=32) (by omega) (by omega)
   rw[aa,sT (AY _) (iX _),aa,qmj,cB (by omega),aa,fZ (by omega),aa,sT (HZ _) (by omega),aa,e32,aa,dg,dg,Zq (by omega) DF,aa,
    Zp b1 b3 b2,aa,aa,pj (AY _) (iX _),DY,qmi,aa,aa]
   exact ih
  ·rw[ai h0,cB (by omega),aa];have nG:s=0:=by omega
   subst nG;rw[show u.getD (i+1) 0 * 2 ^ (32 - 0) % 4294967296=0 from Nat.mul_mod_left _ _,jF] at ih;exact ih
end Go.Ab
namespace Go.Ab
open Go.Proofs.Tryz
def lG (x y:NV):NV:=if x.v < y.v then ⟨true,.full,[]⟩ else ⟨false,.no,aC (x.v / y.v)⟩
def oR (x y:NV):NV:=if x.v < y.v then ⟨x.z,qG x.v,aC x.v⟩ else if y.v < 4294967296 then ⟨false,qG (x.v % y.v),aC (x.v % y.v)⟩ else ⟨false,.no,aC (x.v % y.v)⟩
theorem HA (x y:NV):(lG x y).ds=aC (x.v / y.v):=by
 unfold lG
 split
 ·rename_i h;rw[Aj h,lF]
 ·rfl
theorem HB (x y:NV):(oR x y).ds=aC (x.v % y.v):=by
 unfold oR
 split
 ·rename_i h;rw[lE h]
 ·split<;>rfl
theorem lh {a b:Nat} (h:a<=b):(aC a).length<=(aC b).length:=by
 have:=mS (gu b);rw[gz] at this;exact mF (jq h this)
theorem NOk.v_len {x:NV} (h:NOk x):(aC x.v).length<=x.ds.length:=T8 h.dg
theorem NOk.v_len' {x:NV} (h:NOk x):(aC x.v).length < 2 ^ 40:=jq h.v_len h.len
theorem NOk.z_v {x:NV} (h:NOk x):x.z=true->aC x.v=[]:=by
 intro hz;rw[NV.v,h.nil hz];exact lF
theorem Ub {x y:NV} (hx:NOk x):NOk (lG x y):=by
 refine ⟨by rw[HA];exact gu _,?_,?_⟩
 ·rw[HA];exact jq (lh (xM _ _)) hx.v_len'
 ·unfold lG
  split
  ·intro _;rfl
  ·intro h;cases h
theorem qkz {x y:NV} (hx:NOk x):NOk (oR x y):=by
 refine ⟨by rw[HB];exact gu _,?_,?_⟩
 ·rw[HB];exact jq (lh (Nat.mod_le _ _)) hx.v_len'
 ·unfold oR
  split
  ·exact hx.z_v
  ·split<;>(intro h;cases h)
theorem IK (n:Nat):(qG n).fr=qG n:=by unfold qG;split<;>rfl
theorem Dl (x y:NV):(lG x y).fr=lG x y:=by unfold lG;split<;>rfl
theorem HC (x y:NV):(oR x y).fr=oR x y:=by
 unfold oR
 split
 ·simp only[NV.fr,IK]
 ·split
  ·simp only[NV.fr,IK]
  ·rfl
theorem L9 (x y:NV):(oR x y).v=x.v % y.v:=by rw[NV.v,HB,gz]
def HD (x y:NV):AV:=if y.v=0 then .tup [Bt,Bt,.int .i64 31] else .tup [(lG x y).av,(oR x y).av,.int .i64 0]
theorem mX {n:Nat}:(aC n).length=0↔n=0:=by rw[List.length_eq_zero_iff];exact ER
theorem Hy {n:Nat}:(aC n).length=1↔n≠0/\n < 4294967296:=by
 constructor
 ·intro h;have h1:=mS (gu n);rw[gz,h] at h1;exact ⟨fun e=>by rw[e,lF] at h;simp at h,by simpa using h1⟩
 ·intro ⟨h,h'⟩;have h1:=mF (k:=1) (n:=n) (by simpa using h');have h2:(aC n).length≠0:=fun e=>h (mX.1 e);omega
theorem Hx {n:Nat} (h:n≠0):(aC n).getD ((aC n).length - 1) 0≠0:=by
 intro e;have h1:sj (aC n)=true:=by rw[sj,gz];exact dD rfl
 rw[<- Yt (gu n),BD] at h1;have h2:¬ (aC n).length=0:=fun e=>h (mX.1 e);rw[e] at h1;simp[h2] at h1
theorem WW {t:Nat} (h:0 < t) (h':t < 4294967296):lz t < 32/\2147483648<=t * 2 ^ lz t/\t * 2 ^ lz t < 4294967296:=by
 have hl:Nat.log2 t < 32:=(Nat.log2_lt (by omega)).2 h';have h1:=Nat.log2_self_le (n:=t) (by omega);have h2:=Nat.lt_log2_self (n:=t);unfold lz;generalize Nat.log2 t=k at *;have e:2 ^ k * 2 ^ (31 - k)=2147483648:=by rw[<- qY,show k+(31 - k)=31 by omega]
 have e2:2 ^ (k+1) * 2 ^ (31 - k)=4294967296:=by rw[<- qY,show k+1+(31 - k)=32 by omega]
 refine ⟨by omega,?_,?_⟩
 ·rw[<- e];exact iM _ h1
 ·rw[<- e2];exact Nat.mul_lt_mul_of_pos_right h2 (uG _)
theorem qo1 {b:Nat} {n:Nat} (hn:(aC b).length=n) (ng:1<=n) (hs:lz ((aC b).getD (n - 1) 0) < 32) :
  (aC (2 ^ lz ((aC b).getD (n - 1) 0) * b)).length=n/\2147483648<=(aC (2 ^ lz ((aC b).getD (n - 1) 0) * b)).getD (n - 1) 0:=by
 have hb:b≠0:=by intro e;rw[e,lF] at hn;simp at hn;omega
 have oW:=Hx hb;rw[hn] at oW;have hd:=gu b (n - 1);obtain ⟨s1,s2,s3⟩:=WW (oP oW) hd;obtain ⟨k,rfl⟩:∃ k,n=k+1:=⟨n - 1,by omega⟩;rw[pw] at *;have hv:b=vs (aC b) k+4294967296 ^ k * (aC b).getD k 0:=by rw[<- jO,jn (Nat.le_of_eq hn),gz]
 have gY:=xj (gu b) k;generalize (aC b).getD k 0=t at *;generalize vs (aC b) k=l at *;generalize lz t=s at *;have hp:=uG s
 have hlt:2 ^ s * b < 4294967296 ^ (k+1):=by
  have h1:b < 4294967296 ^ k * (t+1):=by rw[gB];omega
  have h4:(t+1) * 2 ^ s<=4294967296:=by
   have hpw:2 ^ s * 2 ^ (32 - s)=4294967296:=zd s1;rw[<- hpw,cM] at s3 ⊢;have:=Nat.lt_of_mul_lt_mul_left s3;exact kG _ this
  have h2:2 ^ s * b < 2 ^ s * (4294967296 ^ k * (t+1)):=Nat.mul_lt_mul_of_pos_left h1 hp;have h3:2 ^ s * (4294967296 ^ k * (t+1))=4294967296 ^ k * ((t+1) * 2 ^ s):=by rw[Nat.mul_left_comm,cM (2 ^ s)]
  have h5:4294967296 ^ k * ((t+1) * 2 ^ s)<=4294967296 ^ k * 4294967296:=kG _ h4;rw[jR];omega
 have wE:4294967296 ^ k * (t * 2 ^ s)<=2 ^ s * b:=by
  rw[cM t,Nat.mul_left_comm];exact kG _ (by omega)
 have H2:=mF hlt
 have qqd:k < (aC (2 ^ s * b)).length:=by
  apply qj;intro hc;have h1:=mS (gu (2 ^ s * b));rw[gz] at h1;have h2:4294967296 ^ (aC (2 ^ s * b)).length<=4294967296 ^ k:=py (by omega) (by omega);have h3:4294967296 ^ k * 1<=4294967296 ^ k * (t * 2 ^ s):=kG _ (by omega);omega
 refine ⟨by omega,?_⟩;have rC:2 ^ s * b=vs (aC (2 ^ s * b)) k+4294967296 ^ k * (aC (2 ^ s * b)).getD k 0:=by rw[<- jO,jn (by omega),gz]
 have qqe:=xj (gu (2 ^ s * b)) k;generalize (aC (2 ^ s * b)).getD k 0=y at *;generalize vs (aC (2 ^ s * b)) k=l2 at *;apply qj;intro hc;have h1:4294967296 ^ k * (y+1)<=4294967296 ^ k * (t * 2 ^ s):=kG _ (by omega);rw[gB] at h1;omega
theorem qmT {v u0:List Nat} {n m:Nat} (du:Dg u0) (hu:u0.length=m+n) (hlt:wn u0 m n < val v):KInv v u0 n m m u0 (List.replicate m 0) where
 du:=du
 lu:=hu
 dq:=ye m
 lq:=uy
 hi:=by
  intro k hk;exact ym (by omega)
 lo:=fun _ _=>rfl
 lt:=hlt
 eq:=by rw[pz,wn,xN,bp,Nat.add_sub_cancel_left]
theorem qpG {u v:List Nat} {n m:Nat} (hu:Dg u) (hn:v.length=n) (ng:1<=n) (h:u.getD (m+n - 1) 0 < v.getD (n - 1) 0):wn u m n < val v:=by
 obtain ⟨k,rfl⟩:∃ k,n=k+1:=⟨n - 1,by omega⟩;rw[pw,show m+(k+1) - 1=m+k by omega] at h;have h1:=zx hu m k;have h2:4294967296 ^ k * (u.getD (m+k) 0+1)<=4294967296 ^ k * v.getD k 0:=kG _ h;rw[wn,<- jn (Nat.le_of_eq hn),jO];rw[gB] at h2;omega
theorem Lu {x y:NV} (hx:NOk x) (hy:NOk y):AP ae 187 [x.av,y.av]=some (HD x y):=by
 have lx:=hx.v_len';have ly:=hy.v_len';have hX:NOk ⟨x.z,.no,aC x.v⟩:=⟨gu _,lx,hx.z_v⟩;have hY:NOk ⟨y.z,.no,aC y.v⟩:=⟨gu _,ly,hy.z_v⟩;have e1:=tt hx.fr;have e2:=tt hy.fr;rw[show x.fr.v=x.v from rfl,show x.fr.z=x.z from rfl] at e1;rw[show y.fr.v=y.v from rfl,show y.fr.z=y.z from rfl] at e2;have e3:=vV hX hY;have vX:(NV.mk x.z .no (aC x.v)).v=x.v:=gz _;have vY:(NV.mk y.z .no (aC y.v)).v=y.v:=gz _;rw[vX,vY] at e3;have fX:=cF ⟨x.z,.no,aC x.v⟩;have fY:=cF ⟨y.z,.no,aC y.v⟩;rw[show (NV.mk x.z .no (aC x.v)).fr=⟨x.z,.no,aC x.v⟩ from rfl] at fX;rw[show (NV.mk y.z .no (aC y.v)).fr=⟨y.z,.no,aC y.v⟩ from rfl] at fY;unfold HD
 by_cases h0:y.v=0
 ·rw[an h0];refine cO _ _ (wu AH AH (jT _ _)) rfl (m:=[]) ?_;rw[G7,cJ (cF x),e1,aR,aa,cJ (cF y),e2,aR,aa,iF,aa,nL,aa,aA,an (mX.2 h0)]
 ·rw[ai h0];have lR:¬ (aC y.v).length=0:=fun e=>h0 (mX.1 e)
  by_cases h1:x.v < y.v
  ·have hc:gQ x.v y.v < 0:=by unfold gQ;rw[an h1];omega
   refine cO _ _ (wu (qx (lG x y)) (qx (oR x y)) (jT _ _)) rfl (m:=[]) ?_ |>.trans (by rw[Dl,HC])
   rw[G7,cJ (cF x),e1,aR,aa,cJ (cF y),e2,aR,aa,iF,aa,nL,aa,aA,ai lR,
    fG fX fY,e3,aR,aa,bh,aa,aA,an hc,cJ fX,Se hX,aR,aa]
   unfold lG oR;rw[an h1,an h1]
   rfl
  ·have hc:¬ gQ x.v y.v < 0:=by unfold gQ;rw[ai h1];split<;>omega
   by_cases h2:y.v < 4294967296
   ·have lS:(aC y.v).length=1:=Hy.2 ⟨h0,h2⟩
    have AS:(aC y.v).getD 0 0=y.v:=by
     rw[yf h0,pq,lE h2]
    have hlt:x.v % y.v < y.v:=jY _ (by omega);refine cO _ _ (wu (qx (lG x y)) (qx (oR x y)) (jT _ _)) rfl (m:=[]) ?_ |>.trans (by rw[Dl,HC])
    have e4:=qgN (d:=y.v) hX (by omega) h2;rw[vX] at e4
    rw[G7,cJ (cF x),e1,aR,aa,cJ (cF y),e2,aR,aa,iF,aa,nL,aa,aA,ai lR,
     fG fX fY,e3,aR,aa,bh,aa,aA,ai hc,aa,vw,aa,aA,an lS,Im (by simp only[lS];omega),aa,kN,aa]
    simp only[AS];rw[fG (b:=dg y.v) (b':=dg y.v) fX (gh .u32 y.v),e4];simp only[aR,aa,aY]
    rw[show ([NV.av ⟨false,.no,aC (x.v / y.v)⟩,dg (x.v % y.v)]:List AV)[0]?=some (NV.av ⟨false,.no,aC (x.v / y.v)⟩) from rfl,show ([NV.av ⟨false,.no,aC (x.v / y.v)⟩,dg (x.v % y.v)]:List AV)[1]?=some (dg (x.v % y.v)) from rfl,
     aa,aa,my _ (by omega),aa,cJ (gh _ _),Lt (by omega)]
    unfold lG oR;rw[ai h1,ai h1,an h2]
    rfl
   ·have lS:¬ (aC y.v).length=1:=fun e=>h2 (Hy.1 e).2;obtain ⟨n,hn⟩:∃ n,n=(aC y.v).length:=⟨_,rfl⟩;have ng:2<=n:=by omega
    have oW:=Hx h0;rw[<- hn] at oW;have Bc:=gu y.v (n - 1);obtain ⟨z1,z2,z3⟩:=WW (oP oW) Bc;obtain ⟨w1,w2⟩:=qo1 hn.symm (by omega) z1;have hle:y.v<=x.v:=vR h1;have qqg:=lh hle;generalize hs:lz ((aC y.v).getD (n - 1) 0)=s at *;have gZ:(jD (aC x.v) s (aC x.v).length).length=(aC x.v).length+1:=zm _ _ _;have VR:(jD (aC y.v) s (aC y.v).length).length=(aC y.v).length+1:=zm _ _ _;have hsu:val (jD (aC x.v) s (aC x.v).length)=2 ^ s * x.v:=by rw[YL,gz]
    have hsv:val (jD (aC y.v) s (aC y.v).length)=2 ^ s * y.v:=by rw[YL,gz]
    have U6:Dg (jD (aC x.v) s (aC x.v).length):=O6 (gu _) z1 _ (aQ _);have DG:Dg (jD (aC y.v) s (aC y.v).length):=O6 (gu _) z1 _ (aQ _);have mM:(jD (aC x.v) s (aC x.v).length).getD (aC x.v).length 0 < 2 ^ s:=O7 (gu _) _ (aQ _);have qmb:2 ^ s<=2 ^ 31:=py (by omega) (by omega);obtain ⟨mm,yD⟩:∃ mm,(aC x.v).length+1=mm+n:=⟨(aC x.v).length+1 - n,by omega⟩;have hW:NOk ⟨false,.no,aC (2 ^ s * y.v)⟩:=⟨gu _,by simp only[w1];omega,by simp⟩
    have e5:AP ae 164 [(NV.mk false .no (jD (aC y.v) s (aC y.v).length)).av]=some (NV.av ⟨false,.no,aC (2 ^ s * y.v)⟩):=by
     rw[q8 _ (by simp only[VR];omega),lC DG,hsv]
    have hp:=w5 (cp:=AP ae) (g:=164) (m:=[oc (jD (aC x.v) s (aC x.v).length),oc (jD (aC y.v) s (aC y.v).length)]) (nm:=1) (ds:=jD (aC y.v) s (aC y.v).length) rfl
    have hI:=qmT (v:=aC (2 ^ s * y.v)) (n:=n) (m:=mm) U6 (by omega) (qpG U6 w1 (by omega) (by
     rw[show mm+n - 1=(aC x.v).length by omega]
     exact qV mM (dY qmb w2)))
    obtain ⟨u',q',i1,i2⟩:=qhc ⟨false,.no,aC (2 ^ s * y.v)⟩ _ (J9 (aE ae.P f187.results.toList)) (.int .u64 s) (mm+n) n mm w1 ng (gu _) rfl (by omega) w2 mm _ _ (aQ _) hI;obtain ⟨k1,k2⟩:=KInv.done (a:=aC x.v) (b:=aC y.v) z1 (by omega) (by rw[hsu,gz]) (by rw[gz,gz]) i1;rw[gz,gz] at k1 k2;have yA:=i1.lq;have Vx:=i1.lu;have i3:=qhg u' q' (Kd (aE ae.P f187.results.toList)) (.arr 2 0 mm none) s (mm+n) n i1.du Vx (by omega) (by omega) z1 n 0 (by omega);have p1:=w5 (cp:=AP ae) (g:=164) (m:=M3 u' q'++[oc (lD u' s n)]) (nm:=2) (ds:=q') rfl;have p2:=w5 (cp:=AP ae) (g:=164) (m:=(M3 u' q'++[oc (lD u' s n)]).set 2 none) (nm:=3) (ds:=lD u' s n) rfl;rw[yA] at p1;rw[EM] at p2;have f1:=tt (x:=⟨false,.no,q'⟩) ⟨i1.dq,by simp only[yA];omega,by simp⟩;have f2:=tt (x:=⟨false,.no,lD u' s n⟩) ⟨Jv i1.du z1 n,by simp only[EM];omega,by simp⟩;rw[NV.v,<- lC i1.dq,k1] at f1;rw[NV.v,<- lC (Jv i1.du z1 n),k2] at f2;refine cO _ _ (wu (qx (lG x y)) (qx (oR x y)) (jT _ _)) rfl (m:=[oc u',none,none,none]) ?_ |>.trans (by rw[Dl,HC])
    rw[G7,cJ (cF x),e1,aR,aa,cJ (cF y),e2,aR,aa,iF,aa,nL,aa,aA,ai lR,
     fG fX fY,e3,aR,aa,bh,aa,aA,ai hc,aa,vw,aa,aA,ai lS,
     aa,oY (by simp only[];omega) (by simp only[];omega),aa,mN (by simp only[];omega),aa,kN,aa]
    simp only[show (aC y.v).getD ((aC y.v).length - 1) 0=(aC y.v).getD (n - 1) 0 by rw[hn]];rw[cJ (a:=dg ((aC y.v).getD (n - 1) 0)) (a':=dg ((aC y.v).getD (n - 1) 0)) (gh _ _),qgO (oP oW) Bc,aR,aa,hs,Ax (by omega),aa,Sn [] hX z1,aa,Sn _ hY z1,aa];simp only[bV,aP,aJ,cn];rw[VR] at hp;rw[hp,e5,aR,aa,iF,aa,qm1,aa];simp only[w1,yD];rw[nk (by omega) (by omega),aa,pw,wY (by omega) (by omega),aa,aa,nk (by omega) (by omega),aa,pw,rF (by omega),aa]
    refine Eq.trans ?_ (i2.trans ?_)
    ·rfl
    rw[qcZ,wY (by omega) (by omega),aa]
    refine Eq.trans ?_ (i3.trans ?_)
    ·rfl
    rw[qdi,p1,f1,aR,aa,p2,f2,aR,aa];unfold lG oR;rw[ai h1,ai h1,ai h2]
    rfl
end Go.Ab
namespace Go.Ab
open Go.Proofs.Tryz
def lK (x y:NV):NV:=⟨if Nat.gcd x.v y.v=0 then x.z else false,qG (Nat.gcd x.v y.v),aC (Nat.gcd x.v y.v)⟩
theorem qha (K:KT) (m:af):∀ (n:Nat) (a b:NV),NOk a->NOk b->a.ds=aC a.v->b.ds=aC b.v->b.v=n->a.fr=a->b.fr=b ->
  ∃ c:NV,NOk c/\c.ds=aC (Nat.gcd a.v b.v)/\c.fr=c/\(b.v=0->c.z=a.z)/\Gk a.av b.av m K=K (.exit 0) (KS c.av m):=by
 intro n
 induction n using Nat.strongRecOn with
 | ind n ih=>
  intro a b ha hb ca cb hn fa fb;have fza:=cF a;have fzb:=cF b;rw[fa] at fza;rw[fb] at fzb;rw[qfk,iF,aa,vx,aa,aA]
  by_cases h:b.v=0
  ·have hl:¬ b.ds.length > 0:=by rw[cb,h,lF];simp
   rw[ai hl];exact ⟨a,ha,by rw[h,Nat.gcd_zero_right];exact ca,fa,fun _=>rfl,rfl⟩
  ·have hl:b.ds.length > 0:=by
    rw[cb];have:(aC b.v).length≠0:=fun e=>h (mX.1 e);omega
   rw[an hl,fG fza fzb,Lu ha hb,HD,ai h];simp only[aR,aa];have hlt:a.v % b.v < b.v:=jY _ (oP h);obtain ⟨c,c1,c2,c3,c4,c5⟩:=ih (a.v % b.v) (by omega) b (oR a b) hb (qkz ha) cb (by rw[HB,L9]) (L9 a b) fb (HC a b);rw[L9] at c2;refine ⟨c,c1,?_,c3,fun e=>absurd e h,c5⟩;rw[c2,uF b.v,<- Nat.gcd_rec,uF]
theorem Sl {x y:NV} (hx:NOk x) (hy:NOk y):AP ae 183 [x.av,y.av]=some (lK x y).av:=by
 have lx:=hx.v_len';have ly:=hy.v_len';have hX:NOk ⟨x.z,.no,aC x.v⟩:=⟨gu _,lx,hx.z_v⟩;have hY:NOk ⟨y.z,.no,aC y.v⟩:=⟨gu _,ly,hy.z_v⟩;have e1:=tt hx.fr;have e2:=tt hy.fr;rw[show x.fr.v=x.v from rfl,show x.fr.z=x.z from rfl] at e1;rw[show y.fr.v=y.v from rfl,show y.fr.z=y.z from rfl] at e2;have vX:(NV.mk x.z .no (aC x.v)).v=x.v:=gz _;have vY:(NV.mk y.z .no (aC y.v)).v=y.v:=gz _;obtain ⟨⟨cz,co,cd⟩,c1,c2,c3,c4,c5⟩:=qha (J7 (aE ae.P f183.results.toList)) [] _ _ _ hX hY (by rw[vX]) (by rw[vY]) rfl rfl rfl;rw[vX,vY] at c2;rw[vY] at c4;simp only at c2 c4;subst c2
 have hz:cz=if Nat.gcd x.v y.v=0 then x.z else false:=by
  split
  ·rename_i h;exact c4 (Nat.eq_zero_of_gcd_eq_zero_right h)
  ·rename_i h;have h5:=c1.nil;simp only at h5
   cases cz with
   | false=>rfl
   | true=>exact absurd (ER.1 (h5 rfl)) h
 refine iK (v:=(NV.mk cz (qG (Nat.gcd x.v y.v)) (aC (Nat.gcd x.v y.v))).av) (m:=[]) ?_ (by rw[cF];simp only[NV.fr,IK];rw[lK,<- hz]) (by simp[lK,NV.av,jd]);rw[qgl,cJ (cF x),e1,aR,aa,cJ (cF y),e2,aR,aa];refine c5.trans ?_;rw[qcT,cJ (cF _),c3,Se c1]
 rfl
theorem qkx {a b:Nat} (h:(aC a).length < 2 ^ 40) (h':(aC b).length < 2 ^ 40):(aC (Nat.gcd a b)).length < 2 ^ 40:=by
 by_cases ha:a=0
 ·rw[ha,Nat.gcd_zero_left];exact h'
 ·exact jq (lh (Nat.gcd_le_left _ (oP ha))) h
theorem Ux {x y:NV} (hx:NOk x) (hy:NOk y):NOk (lK x y):=by
 refine ⟨gu _,qkx hx.v_len' hy.v_len',?_⟩;unfold lK;simp only
 split
 ·rename_i h;intro _;rw[h];exact lF
 ·intro h;cases h
theorem Uy (x y:NV):(lK x y).v=Nat.gcd x.v y.v:=gz _
theorem qlh (x y:NV):(lK x y).fr=lK x y:=by unfold lK NV.fr;simp only[IK]
end Go.Ab
namespace Go.Ab
noncomputable section
open Go.Proofs.Tryz
theorem T72 (a0:AV) (m:af):AC ae 72 [a0] m=(bn .u32 a0).bind fun v1=>(ag .other .shr a0 (.int .u64 32)).bind fun v2=>(bn .u32 v2).bind fun v3=>(dO none [v1,v3]).bind fun v4=>(aD (AP ae) none m 133 [v4]).bind fun r5=>some (r5.1,r5.2):=
(bm ae 72 [a0] m (fn:=f72) (c:=aB f72) qjv rfl).trans (by kernel_rfl)
def Ld (x5:AV) (m:af):St:=⟨(aM (aG (x5::bA (aK (aG []))))),m⟩
def Gy (x0 x1 x5 x6:AV) (m:af) (K:KT):OM:=ck 75 (b9 (c2 (c2 (c2 (aB f75))))) 4 (x0::x1::aK (aG (x5::x6::bA (aK [])))) m K
def Le (x0 x1 x5 x6 x7:AV) (m:af):St:=⟨(x0::x1::aK (aG (x5::x6::x7::bA (aG [])))),m⟩
def Gz (x0 x1 x5 x6 x7 x8:AV) (m:af) (K:KT):OM:=ck 75 (b9 (wi (b9 (c2 (c2 (c2 (aB f75))))))) 8 (x0::x1::aK (aG (x5::x6::x7::x8::bA []))) m K
abbrev qeA (K:KT):KT:=bE 75 (bo (aB f75)) K
abbrev qeB (K:KT):KT:=bz 0 (qeA K)
abbrev Kk (K:KT):KT:=(qeB K)
abbrev qeD (K:KT):KT:=bE 75 (kY (pE (c2 (aB f75)))) (nQ 75 (b9 (c2 (c2 (c2 (aB f75))))) 4 K)
abbrev qeE (K:KT):KT:=bz 1 (qeD K)
abbrev qeF (K:KT):KT:=bE 75 (kY (wi (Di (aB f75)))) (qeE K)
abbrev qeG (K:KT):KT:=bz 2 (qeF K)
abbrev Kl (K:KT):KT:=(qeG K)
theorem T75 (a0 a1:AV) (m:af):AC ae 75 [a0,a1] m=(aD (AP ae) none m 133 [a0]).bind fun r1=>(aD (AP ae) none r1.2 133 [a1]).bind fun r2=>(aO false r1.1).bind fun v3=>(aO false r2.1).bind fun v4=>(ag .other .add v3 v4).bind fun v5=>(iP none 161 none (.int .u32 0) 4 r2.2 v5 v5).bind fun r6=>Gy r1.1 r2.1 r6.1 (.int .i64 0) r6.2 (Kk (aE ae.P f75.results.toList)):=
(bm ae 75 [a0,a1] m (fn:=f75) (c:=aB f75) qjy rfl).trans (by kernel_rfl)
theorem Q9 (x0 x1 x5 x6:AV) (m:af) (K:KT):Gy x0 x1 x5 x6 m K=(aO false x0).bind fun v1=>(ag .other .lss x6 v1).bind fun v2=>aw v2 (Gz x0 x1 x5 x6 (.int .u64 0) (.int .i64 0) m (Kl K)) (K (.exit 0) (Ld x5 m)):=
(cg (bW _) _ _ _).trans (by kernel_rfl)
theorem Ra (x0 x1 x5 x6 x7 x8:AV) (m:af) (K:KT):Gz x0 x1 x5 x6 x7 x8 m K=(aO false x1).bind fun v1=>(ag .other .lss x8 v1).bind fun v2=>aw v2 ((aH none x0 x6).bind fun v3=>(aj none m v3).bind fun v4=>(bn .u64 v4).bind fun v5=>(aH none x1 x8).bind fun v6=>(aj none m v6).bind fun v7=>(bn .u64 v7).bind fun v8=>(ag .other .mul v5 v8).bind fun v9=>(ag .other .add x6 x8).bind fun v10=>(aH none x5 v10).bind fun v11=>(aj none m v11).bind fun v12=>(bn .u64 v12).bind fun bu=>(ag .other .add v9 bu).bind fun bq=>(ag .other .add bq x7).bind fun br=>(ag .other .add x6 x8).bind fun bT=>(ag .other .rem br (.int .u64 4294967296)).bind fun bH=>(bn .u32 bH).bind fun fI=>(aH none x5 bT).bind fun dG=>(aL none m dG fI).bind fun m20=>(ag .other .quo br (.int .u64 4294967296)).bind fun v21=>(ag .other .add x8 (.int .i64 1)).bind fun v22=>Gz x0 x1 x5 x6 v21 v22 m20 K) (K (.exit 2) (Le x0 x1 x5 x6 x7 m)):=
(cg (bW _) _ _ _).trans (by kernel_rfl)
theorem qeC (x5:AV) (m:af):Kk (aE ae.P f75.results.toList) (.exit 0) (Ld x5 m)=(aD (AP ae) none m 133 [x5]).bind fun r1=>some (r1.1,r1.2):=by kernel_rfl
theorem qeH (x0 x1 x5 x6 x7:AV) (m:af) (K:KT):Kl K (.exit 2) (Le x0 x1 x5 x6 x7 m)=(aO false x1).bind fun v1=>(ag .other .add x6 v1).bind fun v2=>(bn .u32 x7).bind fun v3=>(aH none x5 v2).bind fun v4=>(aL none m v4 v3).bind fun m5=>(ag .other .add x6 (.int .i64 1)).bind fun v6=>Gy x0 x1 x5 v6 m5 K:=by kernel_rfl
def GW (x5:AV) (m:af):St:=⟨(aM (aG (x5::bI (aM (aK []))))),m⟩
def uu (x0 x1 x5 x6 x7:AV) (m:af) (K:KT):OM:=ck 76 (b9 (c2 (c2 (c2 (aB f76))))) 4 (x0::x1::aK (aG (x5::x6::x7::bI (aM [])))) m K
abbrev qeI (K:KT):KT:=bE 76 (bo (aB f76)) K
abbrev qeJ (K:KT):KT:=bz 0 (qeI K)
abbrev Km (K:KT):KT:=(qeJ K)
theorem T76 (a0 a1:AV) (m:af):AC ae 76 [a0,a1] m=uu a0 a1 au (.int .u64 0) (.int .i64 0) m (Km (aE ae.P f76.results.toList)):=
(bm ae 76 [a0,a1] m (fn:=f76) (c:=aB f76) qjz rfl).trans (by kernel_rfl)
theorem Kt (x0 x1 x5 x6 x7:AV) (m:af) (K:KT):uu x0 x1 x5 x6 x7 m K=(aO false x0).bind fun v1=>(ag .other .lss x7 v1).bind fun v2=>aw v2 ((aD (AP ae) none m 135 [x0,x7]).bind fun r3=>(aD (AP ae) none r3.2 135 [x1,x7]).bind fun r4=>(ag .other .add r3.1 r4.1).bind fun v5=>(ag .other .add v5 x6).bind fun v6=>(ag .other .rem v6 (.int .u64 4294967296)).bind fun v7=>(bn .u32 v7).bind fun v8=>(dO none [v8]).bind fun v9=>(b8 none false 161 none 4 r4.2 x5 v9).bind fun hJ=>(ag .other .quo v6 (.int .u64 4294967296)).bind fun v11=>(ag .other .add x7 (.int .i64 1)).bind fun v12=>uu x0 x1 hJ.1 v11 v12 hJ.2 K) ((aO false x1).bind fun bu=>(ag .other .lss x7 bu).bind fun bq=>aw bq ((aD (AP ae) none m 135 [x0,x7]).bind fun nP=>(aD (AP ae) none nP.2 135 [x1,x7]).bind fun hZ=>(ag .other .add nP.1 hZ.1).bind fun bH=>(ag .other .add bH x6).bind fun fI=>(ag .other .rem fI (.int .u64 4294967296)).bind fun dG=>(bn .u32 dG).bind fun v20=>(dO none [v20]).bind fun v21=>(b8 none false 161 none 4 hZ.2 x5 v21).bind fun IY=>(ag .other .quo fI (.int .u64 4294967296)).bind fun v23=>(ag .other .add x7 (.int .i64 1)).bind fun v24=>uu x0 x1 IY.1 v23 v24 IY.2 K) ((ag .other .gtr x6 (.int .u64 0)).bind fun v25=>aw v25 ((aD (AP ae) none m 135 [x0,x7]).bind fun qH=>(aD (AP ae) none qH.2 135 [x1,x7]).bind fun Yh=>(ag .other .add qH.1 Yh.1).bind fun v28=>(ag .other .add v28 x6).bind fun kR=>(ag .other .rem kR (.int .u64 4294967296)).bind fun v30=>(bn .u32 v30).bind fun v31=>(dO none [v31]).bind fun mR=>(b8 none false 161 none 4 Yh.2 x5 mR).bind fun Ez=>(ag .other .quo kR (.int .u64 4294967296)).bind fun qO=>(ag .other .add x7 (.int .i64 1)).bind fun nw=>uu x0 x1 Ez.1 qO nw Ez.2 K) (K (.exit 0) (GW x5 m)))):=
(cg (bW _) _ _ _).trans (by kernel_rfl)
theorem qeK (x5:AV) (m:af):Km (aE ae.P f76.results.toList) (.exit 0) (GW x5 m)=(aD (AP ae) none m 133 [x5]).bind fun r1=>some (r1.1,r1.2):=by kernel_rfl
def Lf (m:af):St:=⟨(bI (aW (aM (aG [])))),m⟩
def G3 (x4:AV) (m:af):St:=⟨(aM (x4::bI (aW []))),m⟩
def GB (x0 x1 x5:AV) (m:af) (K:KT):OM:=ck 77 (b9 (c2 (c2 (c2 (aB f77))))) 7 (x0::x1::aK (aG (x5::bI (aM (aK (aG [])))))) m K
abbrev qeL (K:KT):KT:=bE 77 (bo (aB f77)) K
abbrev qeM (K:KT):KT:=bz 0 (qeL K)
abbrev FI (K:KT):KT:=(qeM K)
theorem T77 (a0 a1:AV) (m:af):AC ae 77 [a0,a1] m=(aD (AP ae) none m 133 [a0]).bind fun r1=>(aD (AP ae) none r1.2 133 [a1]).bind fun r2=>(aO false r1.1).bind fun v3=>(aO false r2.1).bind fun v4=>(ag .other .neq v3 v4).bind fun v5=>aw v5 ((aO false r1.1).bind fun v6=>(aO false r2.1).bind fun v7=>(ag .other .lss v6 v7).bind fun v8=>aw v8 (some ((.int .i64 (-1)),r2.2)) (some ((.int .i64 1),r2.2))) ((aO false r1.1).bind fun v9=>(ag .other .sub v9 (.int .i64 1)).bind fun v10=>GB r1.1 r2.1 v10 r2.2 (FI (aE ae.P f77.results.toList))):=
(bm ae 77 [a0,a1] m (fn:=f77) (c:=aB f77) qjA rfl).trans (by kernel_rfl)
theorem Rb (x0 x1 x5:AV) (m:af) (K:KT):GB x0 x1 x5 m K=(ag .other .geq x5 (.int .i64 0)).bind fun v1=>aw v1 ((aH none x0 x5).bind fun v2=>(aj none m v2).bind fun v3=>(aH none x1 x5).bind fun v4=>(aj none m v4).bind fun v5=>(ag .other .neq v3 v5).bind fun v6=>aw v6 ((aH none x0 x5).bind fun v7=>(aj none m v7).bind fun v8=>(aH none x1 x5).bind fun v9=>(aj none m v9).bind fun v10=>(ag .other .lss v8 v10).bind fun v11=>aw v11 (K .ret (G3 (.int .i64 (-1)) m)) (K .ret (G3 (.int .i64 1) m))) ((ag .other .sub x5 (.int .i64 1)).bind fun v12=>GB x0 x1 v12 m K)) (K (.exit 0) (Lf m)):=
(cg (bW _) _ _ _).trans (by kernel_rfl)
theorem qeO (m:af):FI (aE ae.P f77.results.toList) (.exit 0) (Lf  m)=some ((.int .i64 0),m):=by kernel_rfl
theorem qeN (x4:AV) (m:af):FI (aE ae.P f77.results.toList) .ret (G3 x4 m)=some (x4,m):=by kernel_rfl
def Lg (x6:AV) (m:af):St:=⟨(aM (aK (x6::bI (aM (aG []))))),m⟩
def Cx (x0 x1 x6 x7 x8:AV) (m:af) (K:KT):OM:=ck 78 (b9 (bo (aB f78))) 6 (x0::x1::aM (x6::x7::x8::bI (aK (aG [])))) m K
abbrev qeP (K:KT):KT:=bE 78 (bo (c2 (aB f78))) K
abbrev qeQ (K:KT):KT:=bz 0 (qeP K)
abbrev P7 (K:KT):KT:=(qeQ K)
theorem R4 (a0 a1:AV) (m:af):AC ae 78 [a0,a1] m=(aD (AP ae) none m 77 [a0,a1]).bind fun r1=>(ag .other .lss r1.1 (.int .i64 0)).bind fun v2=>aw v2 (some ((.tup [au,(.int .i64 1)]),r1.2)) (Cx a0 a1 au (.int .u64 0) (.int .i64 0) r1.2 (P7 (aE ae.P f78.results.toList))):=
(bm ae 78 [a0,a1] m (fn:=f78) (c:=aB f78) qjB rfl).trans (by kernel_rfl)
theorem Re (x0 x1 x6 x7 x8:AV) (m:af) (K:KT):Cx x0 x1 x6 x7 x8 m K=(aO false x0).bind fun v1=>(ag .other .lss x8 v1).bind fun v2=>aw v2 ((aD (AP ae) none m 135 [x1,x8]).bind fun r3=>(ag .other .add r3.1 x7).bind fun v4=>(aD (AP ae) none r3.2 135 [x0,x8]).bind fun r5=>(ag .other .lss r5.1 v4).bind fun v6=>aw v6 ((aD (AP ae) none r5.2 135 [x0,x8]).bind fun r7=>(ag .other .mul (.int .u64 1) (.int .u64 4294967296)).bind fun v8=>(ag .other .add r7.1 v8).bind fun v9=>(ag .other .sub v9 v4).bind fun v10=>(bn .u32 v10).bind fun v11=>(dO none [v11]).bind fun v12=>(b8 none false 161 none 4 r7.2 x6 v12).bind fun fK=>(ag .other .add x8 (.int .i64 1)).bind fun bq=>Cx x0 x1 fK.1 (.int .u64 1) bq fK.2 K) ((aD (AP ae) none r5.2 135 [x0,x8]).bind fun nP=>(ag .other .mul (.int .u64 0) (.int .u64 4294967296)).bind fun bT=>(ag .other .add nP.1 bT).bind fun bH=>(ag .other .sub bH v4).bind fun fI=>(bn .u32 fI).bind fun dG=>(dO none [dG]).bind fun v20=>(b8 none false 161 none 4 nP.2 x6 v20).bind fun Ey=>(ag .other .add x8 (.int .i64 1)).bind fun v22=>Cx x0 x1 Ey.1 (.int .u64 0) v22 Ey.2 K)) (K (.exit 0) (Lg x6 m)):=
(cg (bW _) _ _ _).trans (by kernel_rfl)
theorem qeR (x6:AV) (m:af):P7 (aE ae.P f78.results.toList) (.exit 0) (Lg x6 m)=(aD (AP ae) none m 133 [x6]).bind fun r1=>some ((.tup [r1.1,(.int .i64 0)]),r1.2):=by kernel_rfl
def KB (x5:AV) (m:af):St:=⟨(aM (aG (x5::bA (aW (aM (aK [])))))),m⟩
def FU (x5 x7:AV) (m:af) (K:KT):OM:=ck 119 (TV (pE (c2 (c2 (aB f119))))) 5 (aM (aG (x5::aG (x7::bA (aW (aM [])))))) m K
def GM (x0 x1 x9:AV) (m:af):St:=⟨(x0::x1::aM (aK (aG (x9::bA (aW (aK [])))))),m⟩
def zO (x0 x1 x9:AV) (m:af) (K:KT):OM:=ck 119 (nD (bo (c2 (c2 (c2 (aB f119)))))) 13 (x0::x1::aM (aK (aG (x9::bA (aW (aK [])))))) m K
def Ky (x0 x9:AV) (m:af):St:=⟨(x0::aW (x9::bA (aW (aK [])))),m⟩
def Cf (x0 x1 x9:AV) (m:af) (K:KT):OM:=ck 119 (nD (bo (bo (aB f119)))) 15 (x0::x1::aM (aK (aG (x9::bA (aW (aK [])))))) m K
def Kz (x0 x1 x9:AV) (m:af):St:=⟨(x0::x1::aM (aK (aG (x9::bA (aW (aK [])))))),m⟩
def FR (x0 x1 x9:AV) (m:af) (K:KT):OM:=ck 119 (TV (qkt (bo (bo (c2 (aB f119)))))) 16 (x0::x1::aM (aK (aG (x9::bA (aW (aK [])))))) m K
def KA (x0 x1 x9:AV) (m:af):St:=⟨(x0::x1::aM (aK (aG (x9::bA (aW (aK [])))))),m⟩
def FT (x0 x1 x9:AV) (m:af) (K:KT):OM:=ck 119 (nD (Hw (Di (bo (c2 (c2 (aB f119))))))) 18 (x0::x1::aM (aK (aG (x9::bA (aW (aK [])))))) m K
abbrev qaX (K:KT):KT:=bE 119 (bo (c2 (aB f119))) K
abbrev qaY (K:KT):KT:=bE 119 (Dj (bo (aB f119))) (qaX K)
abbrev qaZ (K:KT):KT:=bz 0 (qaY K)
abbrev PZ (K:KT):KT:=(qaZ K)
abbrev qaJ (K:KT):KT:=bE 119 (bo (bo (c2 (aB f119)))) K
abbrev qaK (K:KT):KT:=bz 2 (qaJ K)
abbrev B7 (K:KT):KT:=(qaK K)
abbrev qaP (K:KT):KT:=bz 5 (nQ 119 (nD (bo (bo (aB f119)))) 15 K)
abbrev qaQ (K:KT):KT:=bE 119 (Dj (uO (bo (c2 (c2 (c2 (aB f119))))))) (qaP K)
abbrev qaR (K:KT):KT:=bz 6 (qaQ K)
abbrev JQ (K:KT):KT:=(qaR K)
abbrev qaM (K:KT):KT:=bE 119 (bo (bo (c2 (c2 (aB f119))))) K
abbrev qaN (K:KT):KT:=bz 4 (qaM K)
abbrev PY (K:KT):KT:=(qaN K)
abbrev qaT (K:KT):KT:=bz 5 (nQ 119 (nD (bo (bo (aB f119)))) 15 K)
abbrev qaU (K:KT):KT:=bE 119 (L3 (nD (bo (bo (aB f119))))) (qaT K)
abbrev qaV (K:KT):KT:=bz 8 (qaU K)
abbrev JR (K:KT):KT:=(qaV K)
theorem qfL (a0 a1:AV) (m:af):AC ae 119 [a0,a1] m=(aD (AP ae) none m 133 [a0]).bind fun r1=>(aD (AP ae) none r1.2 133 [a1]).bind fun r2=>(aD (AP ae) none r2.2 155 [r1.1]).bind fun r3=>(aY r3.1 0).bind fun v4=>(aY r3.1 1).bind fun v5=>(aD (AP ae) none r3.2 155 [r2.1]).bind fun r6=>(aY r6.1 0).bind fun v7=>(aY r6.1 1).bind fun v8=>aw v5 (aw v8 (FU v4 v7 r6.2 (PZ (aE ae.P f119.results.toList))) ((aO false r1.1).bind fun v9=>(ag .other .eql v9 (.int .i64 0)).bind fun v10=>aw v10 (some (r2.1,r6.2)) ((aO false r2.1).bind fun v11=>(ag .other .eql v11 (.int .i64 0)).bind fun v12=>aw v12 (some (r1.1,r6.2)) ((aD (AP ae) none r6.2 72 [(.int .u64 1)]).bind fun fK=>zO r1.1 r2.1 fK.1 fK.2 (B7 (aE ae.P f119.results.toList)))))) ((aO false r1.1).bind fun bq=>(ag .other .eql bq (.int .i64 0)).bind fun br=>aw br (some (r2.1,r6.2)) ((aO false r2.1).bind fun bT=>(ag .other .eql bT (.int .i64 0)).bind fun bH=>aw bH (some (r1.1,r6.2)) ((aD (AP ae) none r6.2 72 [(.int .u64 1)]).bind fun gD=>zO r1.1 r2.1 gD.1 gD.2 (B7 (aE ae.P f119.results.toList))))):=
(bm ae 119 [a0,a1] m (fn:=f119) (c:=aB f119) qh6 rfl).trans (by kernel_rfl)
theorem qfe (x5 x7:AV) (m:af) (K:KT):FU x5 x7 m K=(ag .other .neq x7 (.int .u64 0)).bind fun v1=>aw v1 ((ag .other .rem x5 x7).bind fun v2=>FU x7 v2 m K) (K (.exit 0) (KB x5 m)):=
(cg (bW _) _ _ _).trans (by kernel_rfl)
theorem qfa (x0 x1 x9:AV) (m:af) (K:KT):zO x0 x1 x9 m K=(aD (AP ae) none m 156 [x0]).bind fun r1=>aw r1.1 ((aD (AP ae) none r1.2 156 [x1]).bind fun r2=>aw r2.1 ((aD (AP ae) none r2.2 157 [x0]).bind fun r3=>(aD (AP ae) none r3.2 157 [x1]).bind fun r4=>(aD (AP ae) none r4.2 76 [x9,x9]).bind fun r5=>zO r3.1 r4.1 r5.1 r5.2 K) (K (.exit 2) (GM x0 x1 x9 r2.2))) (K (.exit 2) (GM x0 x1 x9 r1.2)):=
(cg (bW _) _ _ _).trans (by kernel_rfl)
theorem qfb (x0 x1 x9:AV) (m:af) (K:KT):Cf x0 x1 x9 m K=(aO false x1).bind fun v1=>(ag .other .gtr v1 (.int .i64 0)).bind fun v2=>aw v2 (FR x0 x1 x9 m (JQ K)) (K (.exit 4) (Ky x0 x9 m)):=
(cg (bW _) _ _ _).trans (by kernel_rfl)
theorem qfc (x0 x1 x9:AV) (m:af) (K:KT):FR x0 x1 x9 m K=(aD (AP ae) none m 156 [x0]).bind fun r1=>aw r1.1 ((aD (AP ae) none r1.2 157 [x0]).bind fun r2=>FR r2.1 x1 x9 r2.2 K) (K (.exit 6) (Kz x0 x1 x9 r1.2)):=
(cg (bW _) _ _ _).trans (by kernel_rfl)
theorem qfd (x0 x1 x9:AV) (m:af) (K:KT):FT x0 x1 x9 m K=(aD (AP ae) none m 156 [x1]).bind fun r1=>aw r1.1 ((aD (AP ae) none r1.2 157 [x1]).bind fun r2=>FT x0 r2.1 x9 r2.2 K) (K (.exit 8) (KA x0 x1 x9 r1.2)):=
(cg (bW _) _ _ _).trans (by kernel_rfl)
theorem qa0 (x5:AV) (m:af):PZ (aE ae.P f119.results.toList) (.exit 0) (KB x5 m)=(aD (AP ae) none m 72 [x5]).bind fun r1=>some (r1.1,r1.2):=by kernel_rfl
theorem qaL (x0 x1 x9:AV) (m:af):B7 (aE ae.P f119.results.toList) (.exit 2) (GM x0 x1 x9 m)=Cf x0 x1 x9 m (PY (aE ae.P f119.results.toList)):=by kernel_rfl
theorem qaS (x0 x1 x9:AV) (m:af) (K:KT):JQ K (.exit 6) (Kz x0 x1 x9 m)=FT x0 x1 x9 m (JR K):=by kernel_rfl
theorem qaO (x0 x9:AV) (m:af):PY (aE ae.P f119.results.toList) (.exit 4) (Ky x0 x9 m)=(aD (AP ae) none m 75 [x0,x9]).bind fun r1=>some (r1.1,r1.2):=by kernel_rfl
theorem qaW (x0 x1 x9:AV) (m:af) (K:KT):JR K (.exit 8) (KA x0 x1 x9 m)=(aD (AP ae) none m 77 [x0,x1]).bind fun r1=>(ag .other .gtr r1.1 (.int .i64 0)).bind fun v2=>aw v2 ((aD (AP ae) none r1.2 78 [x0,x1]).bind fun r3=>(aY r3.1 0).bind fun v4=>(aY r3.1 1).bind fun v5=>Cf x1 v4 x9 r3.2 K) ((aD (AP ae) none r1.2 78 [x1,x0]).bind fun r6=>(aY r6.1 0).bind fun v7=>(aY r6.1 1).bind fun v8=>Cf x0 v7 x9 r6.2 K):=by kernel_rfl
def GO (x0 x3:AV) (m:af):St:=⟨(x0::aK (x3::bC (aK []))),m⟩
def F7 (x0 x3:AV) (m:af) (K:KT):OM:=ck 133 (nD (c2 (aB f133))) 2 (x0::aK (x3::bC (aK []))) m K
abbrev qbD (K:KT):KT:=bE 133 (c2 (c2 (c2 (aB f133)))) K
abbrev qbE (K:KT):KT:=bz 0 (qbD K)
abbrev P1 (K:KT):KT:=(qbE K)
theorem qfW (a0:AV) (m:af):AC ae 133 [a0] m=(aO false a0).bind fun v1=>F7 a0 v1 m (P1 (aE ae.P f133.results.toList)):=
(bm ae 133 [a0] m (fn:=f133) (c:=aB f133) qii rfl).trans (by kernel_rfl)
theorem Qq (x0 x3:AV) (m:af) (K:KT):F7 x0 x3 m K=(ag .other .gtr x3 (.int .i64 0)).bind fun v1=>aw v1 ((ag .other .sub x3 (.int .i64 1)).bind fun v2=>(aH none x0 v2).bind fun v3=>(aj none m v3).bind fun v4=>(ag .other .eql v4 (.int .u32 0)).bind fun v5=>aw v5 ((ag .other .sub x3 (.int .i64 1)).bind fun v6=>F7 x0 v6 m K) (K (.exit 0) (GO x0 x3 m))) (K (.exit 0) (GO x0 x3 m)):=
(cg (bW _) _ _ _).trans (by kernel_rfl)
theorem qbF (x0 x3:AV) (m:af):P1 (aE ae.P f133.results.toList) (.exit 0) (GO x0 x3 m)=(nS none x0 none (some x3) none).bind fun v1=>(b8 none false 161 none 4 m au v1).bind fun r2=>some (r2.1,r2.2):=by kernel_rfl
theorem qfY (a0 a1:AV) (m:af):AC ae 135 [a0,a1] m=(aO false a0).bind fun v1=>(ag .other .lss a1 v1).bind fun v2=>aw v2 ((aH none a0 a1).bind fun v3=>(aj none m v3).bind fun v4=>(bn .u64 v4).bind fun v5=>some (v5,m)) (some ((.int .u64 0),m)):=
(bm ae 135 [a0,a1] m (fn:=f135) (c:=aB f135) qik rfl).trans (by kernel_rfl)
def KI (x3:AV) (m:af):St:=⟨(aK (aG (x3::bC (aM (aK (aG [])))))),m⟩
def F9 (x3 x4:AV) (m:af) (K:KT):OM:=ck 136 (b9 (bo (aB f136))) 6 (aK (aG (x3::x4::bC (aM (aK []))))) m K
abbrev qbG (K:KT):KT:=bE 136 (bo (c2 (aB f136))) K
abbrev qbH (K:KT):KT:=bz 0 (qbG K)
abbrev JX (K:KT):KT:=(qbH K)
theorem RS (a0:AV) (m:af):AC ae 136 [a0] m=(aD (AP ae) none m 133 [a0]).bind fun r1=>(aO false r1.1).bind fun v2=>(ag .other .eql v2 (.int .i64 0)).bind fun v3=>aw v3 (some ((.int .i64 0),r1.2)) ((aO false r1.1).bind fun v4=>(ag .other .sub v4 (.int .i64 1)).bind fun v5=>(ag .other .mul (.int .i64 32) v5).bind fun v6=>(aO false r1.1).bind fun v7=>(ag .other .sub v7 (.int .i64 1)).bind fun v8=>(aH none r1.1 v8).bind fun v9=>(aj none r1.2 v9).bind fun v10=>F9 v6 v10 r1.2 (JX (aE ae.P f136.results.toList))):=
(bm ae 136 [a0] m (fn:=f136) (c:=aB f136) qil rfl).trans (by kernel_rfl)
theorem Qr (x3 x4:AV) (m:af) (K:KT):F9 x3 x4 m K=(ag .other .gtr x4 (.int .u32 0)).bind fun v1=>aw v1 ((ag .other .add x3 (.int .i64 1)).bind fun v2=>(ag .other .quo x4 (.int .u32 2)).bind fun v3=>F9 v2 v3 m K) (K (.exit 0) (KI x3 m)):=
(cg (bW _) _ _ _).trans (by kernel_rfl)
theorem qbI (x3:AV) (m:af):JX (aE ae.P f136.results.toList) (.exit 0) (KI x3 m)=some (x3,m):=by kernel_rfl
def KJ (x0 x9:AV) (m:af):St:=⟨(x0::aW (x9::bA (bC (aW [])))),m⟩
def Ga (x0 x1 x9 aF:AV) (m:af) (K:KT):OM:=ck 137 (b9 (bo (c2 (c2 (aB f137))))) 11 (x0::x1::aM (aK (aG (x9::aF::bA (bC (aM (aK (aG [])))))))) m K
def KL (x0 x1 x9 aF aZ:AV) (m:af):St:=⟨(x0::x1::aM (aK (aG (x9::aF::aZ::bA (bC (aM (aK []))))))),m⟩
def Ci (x0 x1 x9 aF aZ aN:AV) (m:af) (K:KT):OM:=ck 137 (nD (b9 (mD (bo (c2 (aB f137)))))) 14 (x0::x1::aM (aK (aG (x9::aF::aZ::aN::bA (bC (aM (aG []))))))) m K
abbrev qbJ (K:KT):KT:=bE 137 (bo (c2 (c2 (c2 (aB f137))))) K
abbrev qbK (K:KT):KT:=bz 0 (qbJ K)
abbrev JY (K:KT):KT:=(qbK K)
abbrev qbM (K:KT):KT:=bE 137 (kY (pE (bo (aB f137)))) (nQ 137 (b9 (bo (c2 (c2 (aB f137))))) 11 K)
abbrev qbN (K:KT):KT:=bz 1 (qbM K)
abbrev qbO (K:KT):KT:=bE 137 (kY (wi (Di (c2 (c2 (c2 (aB f137))))))) (qbN K)
abbrev qbP (K:KT):KT:=bz 2 (qbO K)
abbrev JZ (K:KT):KT:=(qbP K)
theorem G6 (a0 a1:AV) (m:af):AC ae 137 [a0,a1] m=(aD (AP ae) none m 133 [a0]).bind fun r1=>(aD (AP ae) none r1.2 133 [a1]).bind fun r2=>(aO false r2.1).bind fun v3=>(ag .other .eql v3 (.int .i64 0)).bind fun v4=>aw v4 (some ((.tup [au,au,(.int .i64 31)]),r2.2)) ((aO false r2.1).bind fun v5=>(ag .other .eql v5 (.int .i64 1)).bind fun v6=>aw v6 ((aH none r2.1 (.int .i64 0)).bind fun v7=>(aj none r2.2 v7).bind fun v8=>(bn .u64 v8).bind fun v9=>(aD (AP ae) none r2.2 170 [r1.1,v9]).bind fun hJ=>(aY hJ.1 0).bind fun v11=>(aY hJ.1 1).bind fun v12=>(aD (AP ae) none hJ.2 72 [v12]).bind fun fK=>some ((.tup [v11,fK.1,(.int .i64 0)]),fK.2)) ((aO false r1.1).bind fun bq=>(aO false r2.1).bind fun br=>(ag .other .lss bq br).bind fun bT=>aw bT (some ((.tup [au,r1.1,(.int .i64 0)]),r2.2)) ((aO false r1.1).bind fun bH=>(iP none 161 none (.int .u32 0) 4 r2.2 bH bH).bind fun gD=>(aO false r1.1).bind fun dG=>(aO false r2.1).bind fun v20=>(ag .other .sub dG v20).bind fun v21=>Ga r1.1 r2.1 gD.1 v21 gD.2 (JY (aE ae.P f137.results.toList))))):=
(bm ae 137 [a0,a1] m (fn:=f137) (c:=aB f137) qim rfl).trans (by kernel_rfl)
theorem Qs (x0 x1 x9 aF:AV) (m:af) (K:KT):Ga x0 x1 x9 aF m K=(ag .other .geq aF (.int .i64 0)).bind fun v1=>aw v1 ((aD (AP ae) none m 171 [x0,x1,aF]).bind fun r2=>(aY r2.1 0).bind fun v3=>(aY r2.1 1).bind fun v4=>Ci x0 x1 x9 aF v3 v4 r2.2 (JZ K)) (K (.exit 0) (KJ x0 x9 m)):=
(cg (bW _) _ _ _).trans (by kernel_rfl)
theorem Qt (x0 x1 x9 aF aZ aN:AV) (m:af) (K:KT):Ci x0 x1 x9 aF aZ aN m K=(ag .other .lss aZ aN).bind fun v1=>aw v1 ((ag .other .sub aN aZ).bind fun v2=>(ag .other .add v2 (.int .u64 1)).bind fun v3=>(ag .other .quo v3 (.int .u64 2)).bind fun v4=>(ag .other .add aZ v4).bind fun v5=>(aD (AP ae) none m 172 [x1,v5,aF]).bind fun r6=>(aD (AP ae) none r6.2 77 [r6.1,x0]).bind fun r7=>(ag .other .leq r7.1 (.int .i64 0)).bind fun v8=>aw v8 (Ci x0 x1 x9 aF v5 aN r7.2 K) ((ag .other .sub v5 (.int .u64 1)).bind fun v9=>Ci x0 x1 x9 aF aZ v9 r7.2 K)) (K (.exit 2) (KL x0 x1 x9 aF aZ m)):=
(cg (bW _) _ _ _).trans (by kernel_rfl)
theorem qbL (x0 x9:AV) (m:af):JY (aE ae.P f137.results.toList) (.exit 0) (KJ x0 x9 m)=(aD (AP ae) none m 133 [x9]).bind fun r1=>some ((.tup [r1.1,x0,(.int .i64 0)]),r1.2):=by kernel_rfl
theorem qbQ (x0 x1 x9 aF aZ:AV) (m:af) (K:KT):JZ K (.exit 2) (KL x0 x1 x9 aF aZ m)=(bn .u32 aZ).bind fun v1=>(aH none x9 aF).bind fun v2=>(aL none m v2 v1).bind fun m3=>(aD (AP ae) none m3 172 [x1,aZ,aF]).bind fun r4=>(aD (AP ae) none r4.2 78 [x0,r4.1]).bind fun r5=>(aY r5.1 0).bind fun v6=>(aY r5.1 1).bind fun v7=>(ag .other .sub aF (.int .i64 1)).bind fun v8=>Ga v6 x1 x9 v8 r5.2 K:=by kernel_rfl
theorem qf8 (a0:AV) (m:af):AC ae 155 [a0] m=(aD (AP ae) none m 133 [a0]).bind fun r1=>(aO false r1.1).bind fun v2=>(ag .other .eql v2 (.int .i64 0)).bind fun v3=>aw v3 (some ((.tup [(.int .u64 0),(.bool true)]),r1.2)) ((ag .other .eql v2 (.int .i64 1)).bind fun v4=>aw v4 ((aH none r1.1 (.int .i64 0)).bind fun v5=>(aj none r1.2 v5).bind fun v6=>(bn .u64 v6).bind fun v7=>some ((.tup [v7,(.bool true)]),r1.2)) ((ag .other .eql v2 (.int .i64 2)).bind fun v8=>aw v8 ((aH none r1.1 (.int .i64 1)).bind fun v9=>(aj none r1.2 v9).bind fun v10=>(bn .u64 v10).bind fun v11=>(ag .other .shl v11 (.int .u64 32)).bind fun v12=>(aH none r1.1 (.int .i64 0)).bind fun bu=>(aj none r1.2 bu).bind fun bq=>(bn .u64 bq).bind fun br=>(ag .other .or v12 br).bind fun bT=>some ((.tup [bT,(.bool true)]),r1.2)) (some ((.tup [(.int .u64 0),(.bool false)]),r1.2)))):=
(bm ae 155 [a0] m (fn:=f155) (c:=aB f155) qiA rfl).trans (by kernel_rfl)
theorem qf9 (a0:AV) (m:af):AC ae 156 [a0] m=(aD (AP ae) none m 135 [a0,(.int .i64 0)]).bind fun r1=>(ag .other .rem r1.1 (.int .u64 2)).bind fun v2=>(ag .other .eql v2 (.int .u64 0)).bind fun v3=>some (v3,r1.2):=
(bm ae 156 [a0] m (fn:=f156) (c:=aB f156) qiB rfl).trans (by kernel_rfl)
theorem qga (a0:AV) (m:af):AC ae 157 [a0] m=(aD (AP ae) none m 133 [a0]).bind fun r1=>(aD (AP ae) none r1.2 170 [r1.1,(.int .u64 2)]).bind fun r2=>(aY r2.1 0).bind fun v3=>(aY r2.1 1).bind fun v4=>some (v3,r2.2):=
(bm ae 157 [a0] m (fn:=f157) (c:=aB f157) qiC rfl).trans (by kernel_rfl)
def KO (x6 x7:AV) (m:af):St:=⟨(aM (aK (x6::x7::bI (aG [])))),m⟩
def Gi (x0 x1 x6 x7 x8:AV) (m:af) (K:KT):OM:=ck 170 (b9 (c2 (c2 (c2 (aB f170))))) 4 (x0::x1::aM (x6::x7::x8::bI [])) m K
abbrev qcy (K:KT):KT:=bE 170 (bo (aB f170)) K
abbrev qcz (K:KT):KT:=bz 0 (qcy K)
abbrev J6 (K:KT):KT:=(qcz K)
theorem qgg (a0 a1:AV) (m:af):AC ae 170 [a0,a1] m=(aO false a0).bind fun v1=>(iP none 161 none (.int .u32 0) 4 m v1 v1).bind fun r2=>(aO false a0).bind fun v3=>(ag .other .sub v3 (.int .i64 1)).bind fun v4=>Gi a0 a1 r2.1 (.int .u64 0) v4 r2.2 (J6 (aE ae.P f170.results.toList)):=
(bm ae 170 [a0,a1] m (fn:=f170) (c:=aB f170) qiL rfl).trans (by kernel_rfl)
theorem QF (x0 x1 x6 x7 x8:AV) (m:af) (K:KT):Gi x0 x1 x6 x7 x8 m K=(ag .other .geq x8 (.int .i64 0)).bind fun v1=>aw v1 ((ag .other .mul x7 (.int .u64 4294967296)).bind fun v2=>(aH none x0 x8).bind fun v3=>(aj none m v3).bind fun v4=>(bn .u64 v4).bind fun v5=>(ag .other .add v2 v5).bind fun v6=>(ag .other .quo v6 x1).bind fun v7=>(bn .u32 v7).bind fun v8=>(aH none x6 x8).bind fun v9=>(aL none m v9 v8).bind fun m10=>(ag .other .rem v6 x1).bind fun v11=>(ag .other .sub x8 (.int .i64 1)).bind fun v12=>Gi x0 x1 x6 v11 v12 m10 K) (K (.exit 0) (KO x6 x7 m)):=
(cg (bW _) _ _ _).trans (by kernel_rfl)
theorem qcA (x6 x7:AV) (m:af):J6 (aE ae.P f170.results.toList) (.exit 0) (KO x6 x7 m)=(aD (AP ae) none m 133 [x6]).bind fun r1=>some ((.tup [r1.1,x7]),r1.2):=by kernel_rfl
theorem qgh (a0 a1 a2:AV) (m:af):AC ae 171 [a0,a1,a2] m=(aO false a1).bind fun v1=>(ag .other .add a2 v1).bind fun v2=>(aD (AP ae) (some m.length) m 135 [a0,v2]).bind fun r3=>(ag .other .shl r3.1 (.int .u64 32)).bind fun v4=>(ag .other .add a2 v1).bind fun v5=>(ag .other .sub v5 (.int .i64 1)).bind fun v6=>(aD (AP ae) (some m.length) r3.2 135 [a0,v6]).bind fun r7=>(ag .other .or v4 r7.1).bind fun v8=>(ag .other .sub v1 (.int .i64 1)).bind fun v9=>(aH none a1 v9).bind fun v10=>(aj none r7.2 v10).bind fun v11=>(bn .u64 v11).bind fun v12=>(ag .other .quo v8 v12).bind fun bu=>(ag .other .lss bu (.int .u64 4294967295)).bind fun bq=>aw bq ((ag .other .quo v8 v12).bind fun br=>(ag .other .add v12 (.int .u64 1)).bind fun bT=>(ag .other .lss bT (.int .u64 4294967296)).bind fun bH=>aw bH ((ag .other .add v12 (.int .u64 1)).bind fun fI=>(ag .other .quo v8 fI).bind fun dG=>(ag .other .lss dG (.int .u64 4294967296)).bind fun v20=>aw v20 ((ag .other .add v12 (.int .u64 1)).bind fun v21=>(ag .other .quo v8 v21).bind fun v22=>(ag .other .gtr v22 br).bind fun v23=>aw v23 (some ((.tup [br,br]),r7.2)) (some ((.tup [v22,br]),r7.2))) ((ag .other .gtr (.int .u64 0) br).bind fun v24=>aw v24 (some ((.tup [br,br]),r7.2)) (some ((.tup [(.int .u64 0),br]),r7.2)))) ((ag .other .gtr (.int .u64 0) br).bind fun v25=>aw v25 (some ((.tup [br,br]),r7.2)) (some ((.tup [(.int .u64 0),br]),r7.2)))) ((ag .other .add v12 (.int .u64 1)).bind fun v26=>(ag .other .lss v26 (.int .u64 4294967296)).bind fun kh=>aw kh ((ag .other .add v12 (.int .u64 1)).bind fun v28=>(ag .other .quo v8 v28).bind fun kR=>(ag .other .lss kR (.int .u64 4294967296)).bind fun v30=>aw v30 ((ag .other .add v12 (.int .u64 1)).bind fun v31=>(ag .other .quo v8 v31).bind fun mR=>(ag .other .gtr mR (.int .u64 4294967295)).bind fun pQ=>aw pQ (some ((.tup [(.int .u64 4294967295),(.int .u64 4294967295)]),r7.2)) (some ((.tup [mR,(.int .u64 4294967295)]),r7.2))) ((ag .other .gtr (.int .u64 0) (.int .u64 4294967295)).bind fun qO=>aw qO (some ((.tup [(.int .u64 4294967295),(.int .u64 4294967295)]),r7.2)) (some ((.tup [(.int .u64 0),(.int .u64 4294967295)]),r7.2)))) ((ag .other .gtr (.int .u64 0) (.int .u64 4294967295)).bind fun nw=>aw nw (some ((.tup [(.int .u64 4294967295),(.int .u64 4294967295)]),r7.2)) (some ((.tup [(.int .u64 0),(.int .u64 4294967295)]),r7.2)))):=
(bm ae 171 [a0,a1,a2] m (fn:=f171) (c:=aB f171) qiM rfl).trans (by kernel_rfl)
def KP (x7 x8:AV) (m:af):St:=⟨(aM (aK (aG (x7::x8::bI (aG []))))),m⟩
def Gj (x0 x1 x7 x8 x9:AV) (m:af) (K:KT):OM:=ck 172 (b9 (c2 (c2 (c2 (aB f172))))) 4 (x0::x1::aM (aG (x7::x8::x9::bI []))) m K
abbrev qcB (K:KT):KT:=bE 172 (bo (aB f172)) K
abbrev qcC (K:KT):KT:=bz 0 (qcB K)
abbrev P3 (K:KT):KT:=(qcC K)
theorem qgi (a0 a1 a2:AV) (m:af):AC ae 172 [a0,a1,a2] m=(yW none none (.int .u32 0) 4 m a2 a2).bind fun r1=>Gj a0 a1 r1.1 (.int .u64 0) (.int .i64 0) r1.2 (P3 (aE ae.P f172.results.toList)):=
(bm ae 172 [a0,a1,a2] m (fn:=f172) (c:=aB f172) qiN rfl).trans (by kernel_rfl)
theorem QG (x0 x1 x7 x8 x9:AV) (m:af) (K:KT):Gj x0 x1 x7 x8 x9 m K=(aO false x0).bind fun v1=>(ag .other .lss x9 v1).bind fun v2=>aw v2 ((aH none x0 x9).bind fun v3=>(aj none m v3).bind fun v4=>(bn .u64 v4).bind fun v5=>(ag .other .mul v5 x1).bind fun v6=>(ag .other .add v6 x8).bind fun v7=>(ag .other .rem v7 (.int .u64 4294967296)).bind fun v8=>(bn .u32 v8).bind fun v9=>(dO none [v9]).bind fun v10=>(b8 none false 161 none 4 m x7 v10).bind fun je=>(ag .other .quo v7 (.int .u64 4294967296)).bind fun v12=>(ag .other .add x9 (.int .i64 1)).bind fun bu=>Gj x0 x1 je.1 v12 bu je.2 K) (K (.exit 0) (KP x7 x8 m)):=
(cg (bW _) _ _ _).trans (by kernel_rfl)
theorem qcD (x7 x8:AV) (m:af):P3 (aE ae.P f172.results.toList) (.exit 0) (KP x7 x8 m)=(bn .u32 x8).bind fun v1=>(dO none [v1]).bind fun v2=>(b8 none false 161 none 4 m x7 v2).bind fun r3=>(aD (AP ae) none r3.2 133 [r3.1]).bind fun r4=>some (r4.1,r4.2):=by kernel_rfl
end
end Go.Ab
namespace Go.Ab
open Go.Proofs.Tryz
def nR (m:af) (ds:List Nat):NV:=if ds=[] then ⟨true,.full,[]⟩ else ⟨false,.tok m.length 161,ds⟩
def pg (m:af) (ds:List Nat):af:=if ds=[] then m else nU m ds.length
def qI (ds:List Nat):NV:=if ds=[] then ⟨true,.full,[]⟩ else ⟨false,.no,ds⟩
theorem qoF (m:af) (ds:List Nat):(nR m ds).fr=qI ds:=by unfold nR qI;split<;>rfl
theorem qoD (ds:List Nat):(qI ds).fr=qI ds:=by unfold qI;split<;>rfl
theorem w8 (ds:List Nat):(qI ds).ds=ds:=by
 unfold qI
 split
 ·rename_i h;rw[h]
 ·rfl
theorem Mu (m:af) (ds:List Nat):Fz (nR m ds).av (qI ds).av:=by
 have:=cF (nR m ds)
 rwa [qoF] at this
theorem qoE {ds:List Nat} (h:Dg ds) (h':ds.length < 2 ^ 40):NOk (qI ds):=by
 refine ⟨by rw[w8];exact h,by rw[w8];exact h',?_⟩;unfold qI
 split
 ·intro _;rfl
 ·intro h;cases h
theorem Yx (ds:List Nat):(qI ds).v=val ds:=by rw[NV.v,w8]
theorem oH {R:Type} {x y:Option R}:aw (.bool true) x y=x:=rfl
theorem oG {R:Type} {x y:Option R}:aw (.bool false) x y=y:=rfl
theorem Ti {m:af} {ds:List Nat} {z:Bool} {o:Own} (h:ds.length * 4<=gG):b8 none false 161 none 4 m au (.lst none z o (ds.map dg))=some ((nR m ds).av,pg m ds):=by
 cases ds with
 | nil=>rfl
 | cons d ds=>
  have h2:(ds.length+1) * 4<=gG:=by simpa using h
  simp only[nR,pg,NV.av,b8,gd,aJ,aP,bX,bp,h2,bw,az,nU,Sh.size,bV,reduceCtorEq,me,jX,or_true,bp]
theorem LK {m:af} {ds:List Nat} {v:Nat} (h:(ds.length+1) * 4<=gG):b8 none false 161 none 4 (pg m ds) (nR m ds).av (.lst none false .full [.int .u32 v])=some ((nR m (ds++[v])).av,pg m (ds++[v])):=by
 cases ds with
 | nil=>exact Ti (ds:=[v]) h
 | cons d ds=>
  have:=C8 (e:=161) (b:=4) (m:=m) (es:=(d::ds).map dg) (z:=false) (o:=.full) (y:=.int .u32 v) (by rw[bX];exact h);rw[bX] at this;simp only[nR,pg,reduceCtorEq,me,NV.av];rw[this];simp[dg,nR,pg]
def bK (n:Nat):NV:=qI (aC n)
theorem jL (n:Nat):(bK n).fr=bK n:=qoD _
theorem kg (n:Nat):(bK n).ds=aC n:=w8 _
theorem fO (n:Nat):(bK n).v=n:=by rw[NV.v,kg,gz]
theorem ic {n:Nat} (h:(aC n).length < 2 ^ 40):NOk (bK n):=qoE (gu n) h
theorem pf (n:Nat):aO false (bK n).av=some (.int .i64 (aC n).length):=by rw[iF,kg]
theorem iB (n:Nat):Fz (bK n).av (bK n).av:=by
 have:=cF (bK n)
 rwa [jL] at this
theorem uS (n:Nat):∀ m k,bG m (k+1) (bK n).av=some ((bK n).av,[]):=by
 have:=qx (bK n)
 rwa [jL] at this
theorem qg2 (x:NV) (m:af) (K:KT):∀ n:Nat,n<=x.ds.length->x.ds.length < 2 ^ 62->F7 x.av (.int .i64 n) m K=K (.exit 0) (GO x.av (.int .i64 (lW x.ds n)) m):=by
 intro n
 induction n with
 | zero=>
  intro _ _;rw[Qq];simp[ir,aw,lW]
 | succ n ih=>
  intro hn hl;have ih:=ih (by omega) hl;rw[Qq];have h1:((n+1:Nat):Int) > 0:=by omega
  have h2:IntKind.wrap .i64 (((n+1:Nat):Int) - 1)=n:=by rw[iQ]<;>omega
  simp only[ir,aa,aA,an h1,pB,h2];rw[NV.av,tY (by omega) (by omega)];simp only[aa,fV,dg,iS,aA,cK];rw[lW]
  by_cases h:x.ds.getD n 0=0
  ·rw[an (by omega),an h];exact ih
  ·rw[ai (by omega),ai h]
theorem xP (x:NV) (dx:Dg x.ds) (hl:x.ds.length < 2 ^ 41):AP ae 133 [x.av]=some (bK x.v).av:=by
 have ht:=EH x.ds x.ds.length;refine cO _ _ (Mu [] (aC x.v)) (pO _) (m:=pg [] (aC x.v)) ?_;rw[qfW,iF,aa,qg2 x [] _ _ (aQ _) (by omega),qbF];have hs:=YX (z:=x.z) (o:=x.o) (ds:=x.ds) (k:=.i64) (i:=lW x.ds x.ds.length) (by omega) (by omega);rw[<- NV.av] at hs;rw[hs,aa];have he:x.ds.take (lW x.ds x.ds.length)=aC x.v:=lC dx;have hdl:=T8 dx;rw[cK,he,Ti (by rw[NV.v];simp only[gG];omega)]
 rfl
theorem ra {x:NV} (h:NOk x):AP ae 133 [x.av]=some (bK x.v).av:=xP x h.dg (by have:=h.len;omega)
theorem uH {x:NV} {i:Nat} (h:NOk x) (hi:i < 2 ^ 60):AP ae 135 [x.av,.int .i64 i]=some (.int .u64 (x.ds.getD i 0:Nat)):=by
 have:=h.dg i;refine iK (m:=[]) ?_ (gh _ _ _) (by simp[jd]);rw[qfY,iF,aa,cX,aa,aA]
 by_cases hl:i < x.ds.length
 ·rw[an hl,mN hl,aa,kN,aa,my _ this,aa]
 ·rw[ai hl,ym (by omega)];rfl
theorem W77 (x y:NV) (m:af) (K:KT) (hl:x.ds.length < 2 ^ 62):∀ n:Nat,n<=x.ds.length->n<=y.ds.length ->
  GB x.av y.av (.int .i64 ((n:Int) - 1)) m K=if mC x.ds y.ds n=0 then K (.exit 0) (Lf m) else K .ret (G3 (.int .i64 (mC x.ds y.ds n)) m):=by
 intro n
 induction n with
 | zero=>
  intro _ _;rw[Rb];simp[jZ,aw,mC]
 | succ n ih=>
  intro hx hy;have ih:=ih (by omega) (by omega);rw[Rb,show ((n+1:Nat):Int) - 1=(n:Nat) by omega,Em,aa,oH];rw[mN (by omega),aa,kN,aa,mN (by omega),aa,kN,aa,dg,dg,Oj,aa,aA]
  by_cases h:x.ds.getD n 0=y.ds.getD n 0
  ·have hc:mC x.ds y.ds (n+1)=mC x.ds y.ds n:=by rw[mC,ai (by omega),ai (by omega)]
   rw[hc,ai (fun hn=>hn h),rF (by omega),aa];exact ih
  ·rw[an h,aa,kN,aa,aa,kN,aa,cX,aa,aA]
   by_cases h2:x.ds.getD n 0 < y.ds.getD n 0
   ·have hc:mC x.ds y.ds (n+1)=-1:=by rw[mC,an h2]
    rw[hc,an h2];rfl
   ·have hc:mC x.ds y.ds (n+1)=1:=by rw[mC,ai h2,an (by omega)]
    rw[hc,ai h2];rfl
theorem CY {x y:NV} (hx:NOk x) (hy:NOk y):AP ae 77 [x.av,y.av]=some (.int .i64 (gQ x.v y.v)):=by
 have lx:=hx.v_len';have ly:=hy.v_len';refine iK (m:=[]) ?_ (gh _ _ _) (by simp[jd]);rw[T77,cJ (cF x),ra hx.fr,aR,aa,cJ (cF y),ra hy.fr,aR,aa];rw[show x.fr.v=x.v from rfl,show y.fr.v=y.v from rfl,pf,aa,pf,aa,Oj,aa,aA,<- TR]
 by_cases h:(aC x.v).length=(aC y.v).length
 ·have hc:uN (aC x.v) (aC y.v)=mC (aC x.v) (aC y.v) (aC x.v).length:=by
   unfold uN;rw[ai (by omega),ai (by omega)]
  rw[hc,ai (fun hn=>hn h),aa,rF (by omega),aa];have:=W77 (bK x.v) (bK y.v) [] (FI (aE ae.P f77.results.toList)) (by rw[kg];omega) (aC x.v).length (by rw[kg];exact aQ _) (by rw[kg];omega);rw[this,qeO,qeN,kg,kg]
  split
  ·rename_i h0;rw[h0]
  ·rfl
 ·rw[an h,aa,aa,cX,aa,aA];unfold uN
  by_cases h2:(aC x.v).length < (aC y.v).length
  ·rw[an h2,an h2]
  ·have h3:(aC x.v).length > (aC y.v).length:=by omega
   rw[ai h2,ai h2,an h3]
theorem CX {n:Nat} (h:n < 18446744073709551616):AP ae 72 [.int .u64 n]=some (bK n).av:=by
 have hb:∀ a b:Nat,dO none [.int .u32 (a:Nat),.int .u32 (b:Nat)]=some (NV.av ⟨false,.full,[a,b]⟩):=fun _ _=>rfl;have hd:Dg [n % 4294967296,n / 4294967296]:=mE.2 ⟨jY _ (by omega),uQ (by omega)⟩;refine cO _ _ (iB n) (pO _) (m:=[]) ?_;rw[T72,mz,aa,Jt,aa,mz,aa,lE (by omega:n / 4294967296 < 4294967296),hb,aa,cJ (cF _),ra (NOk.fr ⟨hd,by simp,by simp⟩)];simp only[aR,aa,NV.fr,NV.v,val];congr 4;omega
theorem Sd {x:NV} (h:NOk x):AP ae 155 [x.av]=some (s9 x.v):=by
 have e:s9 x.v=s8 (bK x.v).ds:=by rw[kg,YY]
 rw[e];refine iK (m:=[]) ?_ ((HL _).1 _) (by simp[(HL _).2]);rw[qf8,cJ (cF x),ra h.fr];have dt:Dg (bK x.v).ds:=by rw[kg];exact gu _
 simp only[aR,aa];rw[show x.fr.v=x.v from rfl];generalize bK x.v=a at dt;rw[iF,aa,nL,aa,aA];obtain ⟨z,o,ds⟩:=a
 match ds,dt with
 | [],_=>rfl
 | [d],dt=>
  have h0:=(mE.1 dt).1;rw[ai (by simp),vw,aa,aA,an (by simp),Im (by simp),aa,kN,aa];simp only[pq];rw[my d h0]
  rfl
 | [d,e],dt=>
  have h0:=(mE.1 dt).1;have h1:=(mE.1 (mE.1 dt).2).1;have i1:aH none (NV.mk z o [d,e]).av (.int .i64 1)=some (.vptr [dg e]):=rfl;rw[ai (by simp),vw,aa,aA,ai (by simp),Xn,aa,aA,an (by simp),i1,aa,kN,aa,my e h1,aa,EL h1,aa,Im (by simp),aa,kN,aa];simp only[pq];rw[my d h0,aa,EK h1 h0,aa];simp only[s8,rZ]
 | d::e::f::l,_=>
  rw[ai (by simp),vw,aa,aA,ai (by simp),Xn,aa,aA,ai (by simp)]
  rfl
end Go.Ab
namespace Go.Ab
open Go.Proofs.Tryz
theorem Pr {tk:TK} {a:Nat} (h:a < 18446744073709551616):ag tk .rem (.int .u64 a) (.int .u64 4294967296)=some (.int .u64 (a % 4294967296:Nat)):=BP (b:=4294967296) (by omega) h
theorem Pp {tk:TK} {a:Nat} (h:a < 18446744073709551616):ag tk .quo (.int .u64 a) (.int .u64 4294967296)=some (.int .u64 (a / 4294967296:Nat)):=zu (b:=4294967296) (by omega) h
theorem Zs {tk:TK} {a:Nat}:ag tk .gtr (.int .u64 a) (.int .u64 0)=some (.bool (decide (a > 0))):=vx
theorem Oe (a:Nat):a % 4294967296 % 4294967296=a % 4294967296:=Nat.mod_mod _ _
theorem Dd (n:Nat):dO none [.int .u32 (n:Nat)]=some (.lst none false .full [.int .u32 n]):=rfl
theorem JH {x y:NV} (hx:NOk x) (hy:NOk y) (m:af) (K:KT) (i:Nat) (hi:i < 2 ^ 41) (fx:x.fr=x) (fy:y.fr=y) :
  ((aD (AP ae) none (pg m (cL x.ds y.ds i).1) 135 [x.av,.int .i64 i]).bind fun r3=>
  (aD (AP ae) none r3.2 135 [y.av,.int .i64 i]).bind fun r4=>
  (ag .other .add r3.1 r4.1).bind fun v5=>
  (ag .other .add v5 (.int .u64 (cL x.ds y.ds i).2)).bind fun v6=>
  (ag .other .rem v6 (.int .u64 4294967296)).bind fun v7=>
  (bn .u32 v7).bind fun v8=>
  (dO none [v8]).bind fun v9=>
  (b8 none false 161 none 4 r4.2 (nR m (cL x.ds y.ds i).1).av v9).bind fun hJ=>
  (ag .other .quo v6 (.int .u64 4294967296)).bind fun v11=>
  (ag .other .add (.int .i64 i) (.int .i64 1)).bind fun v12=>
  uu x.av y.av hJ.1 v11 v12 hJ.2 K) =
  uu x.av y.av (nR m (cL x.ds y.ds (i+1)).1).av (.int .u64 (cL x.ds y.ds (i+1)).2) (.int .i64 (i+1:Nat)) (pg m (cL x.ds y.ds (i+1)).1) K:=by
 have fzx:=cF x;have fzy:=cF y;rw[fx] at fzx;rw[fy] at fzy;have hc:=xU hx.dg hy.dg i;have h1:=hx.dg i;have h2:=hy.dg i;have hl:=vZ x.ds y.ds i;have e:(cL x.ds y.ds i).2+x.ds.getD i 0+y.ds.getD i 0=x.ds.getD i 0+y.ds.getD i 0+(cL x.ds y.ds i).2:=by omega
 simp only[cL,e]
 rw[fG fzx (gh _ _),uH hx (by omega),aR,aa,fG fzy (gh _ _),uH hy (by omega),aR,aa,
  nV (by omega),aa,nV (by omega),aa,Pr (by omega),aa,mz,aa,Oe,Dd,aa,
  LK (by rw[hl];simp only[gG];omega),aa,Pp (by omega),aa,cB (by omega),aa]
def sa (a b:List Nat):Nat:=if (cL a b (max a.length b.length)).2 > 0 then max a.length b.length+1 else max a.length b.length
theorem qhy {a b:List Nat} (ha:Dg a) (hb:Dg b):val (cL a b (sa a b)).1=val a+val b:=by
 have hc:=xU ha hb (max a.length b.length)
 have e1:∀ n,max a.length b.length<=n->(cL a b n).2=0->val (cL a b n).1=val a+val b:=by
  intro n hn h0;have:=LF a b n;rw[h0,n8,jF,jn (by omega),jn (by omega)] at this;exact this
 unfold sa
 split
 ·refine e1 _ (by omega) ?_;have o1:a.getD (max a.length b.length) 0=0:=ym (by omega);have o2:b.getD (max a.length b.length) 0=0:=ym (by omega);simp only[cL,o1,o2];omega
 ·exact e1 _ (aQ _) (by omega)
theorem W76 {x y:NV} (hx:NOk x) (hy:NOk y) (m:af) (K:KT) (fx:x.fr=x) (fy:y.fr=y):∀ j i:Nat,i+j=max x.ds.length y.ds.length ->
  ∃ v,uu x.av y.av (nR m (cL x.ds y.ds i).1).av (.int .u64 (cL x.ds y.ds i).2) (.int .i64 i) (pg m (cL x.ds y.ds i).1) K
   = K (.exit 0) (GW (nR m (cL x.ds y.ds (sa x.ds y.ds)).1).av v):=by
 have lx:=hx.len;have ly:=hy.len
 have lst:∀ i,x.ds.length<=i->y.ds.length<=i->i < 2 ^ 41->(cL x.ds y.ds i).2=0 ->
   uu x.av y.av (nR m (cL x.ds y.ds i).1).av (.int .u64 (cL x.ds y.ds i).2) (.int .i64 i) (pg m (cL x.ds y.ds i).1) K=K (.exit 0) (GW (nR m (cL x.ds y.ds i).1).av (pg m (cL x.ds y.ds i).1)):=by
  intro i h1 h2 h3 h4;rw[Kt,iF,aa,cX,aa,aA,ai (by omega),iF,aa,cX,aa,aA,ai (by omega),Zs,aa,aA,ai (by omega)]
 intro j
 induction j with
 | zero=>
  intro i hi;have hi:i=max x.ds.length y.ds.length:=by omega
  by_cases hc:(cL x.ds y.ds i).2 > 0
  ·have ht:sa x.ds y.ds=i+1:=by unfold sa;rw[<- hi,an hc]
   have o1:x.ds.getD i 0=0:=ym (by omega);have o2:y.ds.getD i 0=0:=ym (by omega);have tG:=xU hx.dg hy.dg i;refine ⟨pg m (cL x.ds y.ds (i+1)).1,?_⟩;rw[Kt,iF,aa,cX,aa,aA,ai (by omega),iF,aa,cX,aa,aA,ai (by omega),Zs,aa,aA,an hc,JH hx hy m K i (by omega) fx fy,ht];exact lst (i+1) (by omega) (by omega) (by omega) (by simp only[cL,o1,o2];omega)
  ·have ht:sa x.ds y.ds=i:=by unfold sa;rw[<- hi,ai hc]
   rw[ht];exact ⟨_,lst i (by omega) (by omega) (by omega) (by omega)⟩
 | succ j ih=>
  intro i hi;obtain ⟨v,ih⟩:=ih (i+1) (by omega);refine ⟨v,?_⟩;rw[Kt,iF,aa,cX,aa,aA]
  by_cases h1:i < x.ds.length
  ·rw[an h1,JH hx hy m K i (by omega) fx fy];exact ih
  ·rw[ai h1,iF,aa,cX,aa,aA,an (by omega),JH hx hy m K i (by omega) fx fy];exact ih
theorem Su {x y:NV} (hx:NOk x) (hy:NOk y) (fx:x.fr=x) (fy:y.fr=y):AP ae 76 [x.av,y.av]=some (bK (x.v+y.v)).av:=by
 have lx:=hx.len;have ly:=hy.len;obtain ⟨v,hw⟩:=W76 hx hy [] (Km (aE ae.P f76.results.toList)) fx fy (max x.ds.length y.ds.length) 0 (by omega);have hl:=vZ x.ds y.ds (sa x.ds y.ds);have hT:sa x.ds y.ds<=max x.ds.length y.ds.length+1:=by unfold sa;split<;>omega
 have hd:=LD x.ds y.ds (sa x.ds y.ds);refine cO _ _ (iB _) (pO _) (m:=v) ?_;rw[T76];refine hw.trans ?_;rw[qeK,cJ (Mu _ _),xP _ (by rw[w8];exact hd) (by rw[w8,hl];omega),Yx,qhy hx.dg hy.dg]
 rfl
def jM (a b:List Nat):Nat->List Nat×Nat
 | 0=>([],0)
 | i+1=>if a.getD i 0 < b.getD i 0+(jM a b i).2 then ((jM a b i).1++[a.getD i 0+4294967296 - (b.getD i 0+(jM a b i).2)],1)
  else ((jM a b i).1++[a.getD i 0 - (b.getD i 0+(jM a b i).2)],0)
theorem EG (a b:List Nat):∀ i,(jM a b i).1.length=i
 | 0=>rfl
 | i+1=>by simp only[jM];split<;>simp[EG a b i]
theorem Jk (a b:List Nat):∀ i,(jM a b i).2<=1
 | 0=>by simp[jM]
 | i+1=>by simp only[jM];split<;>simp
theorem Jl {a b:List Nat} (ha:Dg a) (hb:Dg b):∀ i,Dg (jM a b i).1
 | 0=>yd
 | i+1=>by
  have:=Jk a b i;have h1:=ha i;have h2:=hb i;simp only[jM]
  split
  ·exact yc (Jl ha hb i) (uQ (by omega))
  ·exact yc (Jl ha hb i) (uQ (by omega))
theorem qpj {a b:List Nat} (ha:Dg a) (hb:Dg b) (i:Nat):val (jM a b i).1+vs b i=vs a i+4294967296 ^ i * (jM a b i).2:=by
 induction i with
 | zero=>
  rw[jM,rJ,rJ]
  rfl
 | succ i ih=>
  have hl:=EG a b i;have hc:=Jk a b i;have h1:=ha i;have h2:=hb i;rw[jO,jO,jR,jM];obtain ⟨s1,s2⟩:=Za (x:=a.getD i 0) (y:=b.getD i 0) (v1:=4294967296) ih;rw[rZ (jM a b i).2] at s1 s2
  split
  ·rename_i hlt;simp only[];rw[xh,hl,val,val,n8,jF];exact s1 hlt (by omega)
  ·rename_i hlt;simp only[];rw[xh,hl,val,val,n8,jF];exact s2 hlt
theorem qpi {a b:List Nat} (ha:Dg a) (hb:Dg b) (h:val b<=val a):val (jM a b a.length).1=val a - val b:=by
 have h1:=qpj ha hb a.length;rw[jn (aQ _),ZA ha h] at h1;have h2:=mS (Jl ha hb a.length);rw[EG] at h2;have h3:=mS ha;have hc:=Jk a b a.length
 have:(jM a b a.length).2=0:=by
  apply qj;intro hn;have e:(jM a b a.length).2=1:=by omega
  rw[e,kV] at h1;omega
 rw[this,n8,jF] at h1;omega
theorem W78 {x y:NV} (hx:NOk x) (hy:NOk y) (m:af) (K:KT) (fx:x.fr=x) (fy:y.fr=y):∀ j i:Nat,i+j=x.ds.length ->
  Cx x.av y.av (nR m (jM x.ds y.ds i).1).av (.int .u64 (jM x.ds y.ds i).2) (.int .i64 i) (pg m (jM x.ds y.ds i).1) K
   = K (.exit 0) (Lg (nR m (jM x.ds y.ds x.ds.length).1).av (pg m (jM x.ds y.ds x.ds.length).1)):=by
 have lx:=hx.len;have fzx:=cF x;have fzy:=cF y;rw[fx] at fzx;rw[fy] at fzy;intro j
 induction j with
 | zero=>
  intro i hi;have:i=x.ds.length:=by omega
  subst this;rw[Re,iF,aa,cX,aa,aA,ai (by omega)]
 | succ j ih=>
  intro i hi;have ih:=ih (i+1) (by omega);have hc:=Jk x.ds y.ds i;have h1:=hx.dg i;have h2:=hy.dg i;have hl:=EG x.ds y.ds i;have s1:ag .other .mul (.int .u64 1) (.int .u64 4294967296)=some (.int .u64 (4294967296:Nat)):=rfl;have s0:ag .other .mul (.int .u64 0) (.int .u64 4294967296)=some (.int .u64 (0:Nat)):=rfl;rw[Re,iF,aa,cX,aa,aA,an (by omega),fG fzy (gh _ _),uH hy (by omega),aR,aa,nV (by omega),aa,fG fzx (gh _ _),uH hx (by omega),aR,aa,cX,aa,aA];simp only[jM] at ih
  by_cases h:x.ds.getD i 0 < y.ds.getD i 0+(jM x.ds y.ds i).2
  ·rw[an h] at ih ⊢
   rw[fG fzx (gh _ _),uH hx (by omega),aR,aa,s1,aa,nV (by omega),aa,zw (by omega) (by omega),aa,mz,aa,Dd,aa,lE (by omega),
    LK (by rw[hl];simp only[gG];omega),aa,cB (by omega),aa]
   exact ih
  ·rw[ai h] at ih ⊢
   rw[fG fzx (gh _ _),uH hx (by omega),aR,aa,s0,aa,nV (by omega),aa,zw (by omega) (by omega),aa,mz,aa,Dd,aa,lE (by omega),
    LK (by rw[hl];simp only[gG];omega),aa,cB (by omega),aa]
   exact ih
def BK (x y:NV):AV:=if x.v < y.v then .tup [Bt,.int .i64 1] else .tup [(bK (x.v - y.v)).av,.int .i64 0]
theorem CZ {x y:NV} (hx:NOk x) (hy:NOk y) (fx:x.fr=x) (fy:y.fr=y):AP ae 78 [x.av,y.av]=some (BK x y):=by
 have lx:=hx.len;have fzx:=cF x;have fzy:=cF y;rw[fx] at fzx;rw[fy] at fzy;unfold BK
 by_cases h:x.v < y.v
 ·rw[an h];refine cO _ _ (uR AH (jT _ _)) rfl (m:=[]) ?_;rw[R4,fG fzx fzy,CY hx hy,aR,aa,bh,aa,aA,gQ,an h,an (by omega)]
 ·rw[ai h];have hl:=EG x.ds y.ds x.ds.length;have hd:=Jl hx.dg hy.dg x.ds.length;refine cO _ _ (uR (uS (x.v - y.v)) (jT _ _)) rfl (m:=pg [] (jM x.ds y.ds x.ds.length).1) ?_;have hc:¬ gQ x.v y.v < 0:=by unfold gQ;rw[ai h];split<;>omega
  rw[R4,fG fzx fzy,CY hx hy,aR,aa,bh,aa,aA,ai hc];refine (W78 hx hy [] _ fx fy x.ds.length 0 (by omega)).trans ?_;rw[qeR,cJ (Mu _ _),xP _ (by rw[w8];exact hd) (by rw[w8,hl];omega),Yx,qpi hx.dg hy.dg (vR h)]
  rfl
theorem qhn (x y:NV) (m:af) (K:KT) (i n:Nat) (s:List Nat×Nat) (hl:n < 2 ^ 42) (hn:s.1.length=n) (hi:i+y.ds.length<=n) (gW:i < x.ds.length) (dx:Dg x.ds) (dy:Dg y.ds) (hs:Dg s.1) (hc:s.2 < 4294967296):∀ j k:Nat,k+j=y.ds.length ->
  Gz x.av y.av (.arr m.length 0 n none) (.int .i64 i) (.int .u64 (gR y.ds (x.ds.getD i 0) i k s).2) (.int .i64 k) (m++[oc (gR y.ds (x.ds.getD i 0) i k s).1]) K
   = K (.exit 2) (Le x.av y.av (.arr m.length 0 n none) (.int .i64 i) (.int .u64 (gR y.ds (x.ds.getD i 0) i y.ds.length s).2) (m++[oc (gR y.ds (x.ds.getD i 0) i y.ds.length s).1])):=by
 intro j
 induction j with
 | zero=>
  intro k hk;have:k=y.ds.length:=by omega
  subst this;rw[Ra,iF,aa,cX,aa,aA,ai (by omega)]
 | succ j ih=>
  intro k hk;have ih:=ih (k+1) (by omega);have hx:=dx i;obtain ⟨h1,h2⟩:=Bp (i:=i) dy hx hs hc k;have h3:=h1 (i+k);have h4:=dy k;have h5:x.ds.getD i 0 * y.ds.getD k 0<=4294967295 * 4294967295:=qX (by omega) (by omega);have hlen:=w4 y.ds (x.ds.getD i 0) i s k;have aU:∀ l,(m++[oc l])[m.length]?=some (oc l):=fun l=>Aa ..
  have tR:∀ l l',(m++[oc l]).set m.length (oc l')=m++[oc l']:=by
   intro l l';rw[rY _ _ (aQ _),pz,cZ]
  rw[Ra,iF,aa,cX,aa,aA,an (by omega)];simp only[gR] at ih;generalize gR y.ds (x.ds.getD i 0) i k s=t at *
  rw[mN gW,aa,kN,aa,my _ hx,aa,mN (by omega),aa,kN,aa,my _ h4,aa,EJ (by omega),aa,kM (by omega),aa,fZ (by omega),aa,sT (aU _) (by omega),aa,my _ h3,aa,
   nV (by omega),aa,nV (by omega),aa,aa,Pr (by omega),aa,mz,aa,Oe,fZ (by omega),aa,pj (aU _) (by omega),tR,aa,Pp (by omega),aa,cB (by omega),aa]
  have e:t.2+(t.1.getD (i+k) 0+x.ds.getD i 0 * y.ds.getD k 0)=x.ds.getD i 0 * y.ds.getD k 0+t.1.getD (i+k) 0+t.2:=by omega
  rw[e] at ih;exact ih
theorem W75 (x y:NV) (m:af) (K:KT) (hx:x.ds.length < 2 ^ 40) (hy:y.ds.length < 2 ^ 40) (dx:Dg x.ds) (dy:Dg y.ds):∀ j i:Nat,i+j=x.ds.length ->
  Gy x.av y.av (.arr m.length 0 (x.ds.length+y.ds.length) none) (.int .i64 i) (m++[oc (iU x.ds y.ds i)]) K
   = K (.exit 0) (Ld (.arr m.length 0 (x.ds.length+y.ds.length) none) (m++[oc (iU x.ds y.ds x.ds.length)])):=by
 intro j
 induction j with
 | zero=>
  intro i hi;have:i=x.ds.length:=by omega
  subst this;rw[Q9,iF,aa,cX,aa,aA,ai (by omega)]
 | succ j ih=>
  intro i hi;have ih:=ih (i+1) (by omega);rw[Q9,iF,aa,cX,aa,aA,an (by omega)];have hb:=qhn x y m (Kl K) i (x.ds.length+y.ds.length) (iU x.ds y.ds i,0) (by omega) (wZ ..) (by omega) (by omega) dx dy (yY dx dy i) (by simp) y.ds.length 0 (by omega)
  refine Eq.trans ?_ (hb.trans ?_)
  ·rfl
  obtain ⟨h1,h2⟩:=Bp (i:=i) (s:=(iU x.ds y.ds i,0)) dy (dx i) (yY dx dy i) (by simp) y.ds.length;have hl:=w4 y.ds (x.ds.getD i 0) i (iU x.ds y.ds i,0) y.ds.length;simp only[wZ] at hl;have aU:∀ l,(m++[oc l])[m.length]?=some (oc l):=fun l=>Aa ..
  have tR:∀ l l',(m++[oc l]).set m.length (oc l')=m++[oc l']:=by
   intro l l';rw[rY _ _ (aQ _),pz,cZ]
  rw[qeH,iF,aa,kM (by omega),aa,mz,aa,lE h2,fZ (by omega),aa,pj (aU _) (by omega),tR,aa,cB (by omega),aa];exact ih
theorem Ar {x y:NV} (hx:NOk x) (hy:NOk y):AP ae 75 [x.av,y.av]=some (bK (x.v * y.v)).av:=by
 have lx:=hx.v_len';have ly:=hy.v_len';have hd:=yY (gu x.v) (gu y.v) (aC x.v).length;have hlen:=wZ (aC x.v) (aC y.v) (aC x.v).length;have hval:=Oh (aC x.v) (aC y.v) (aC x.v).length (aQ _);rw[jn (aQ _),gz,gz] at hval;refine cO _ _ (iB _) (pO _) (m:=[none]) ?_;rw[T75,cJ (cF x),ra hx.fr,aR,aa,cJ (cF y),ra hy.fr,aR,aa];rw[show x.fr.v=x.v from rfl,show y.fr.v=y.v from rfl,pf,aa,pf,aa,kM (by omega),aa,wY (by omega) (by omega),aa];have hw:=W75 (bK x.v) (bK y.v) [] (Kk (aE ae.P f75.results.toList)) (by rw[kg];omega) (by rw[kg];omega) (by rw[kg];exact gu _) (by rw[kg];exact gu _) (aC x.v).length 0 (by rw[kg];omega);simp only[kg] at hw
 refine Eq.trans ?_ (hw.trans ?_)
 ·rfl
 have hp:=w5 (cp:=AP ae) (g:=133) (m:=[]++[oc (iU (aC x.v) (aC y.v) (aC x.v).length)]) (nm:=0) (ds:=iU (aC x.v) (aC y.v) (aC x.v).length) rfl;rw[hlen] at hp;rw[qeC,show ([]:af).length=0 from rfl,hp,xP _ hd (by simp only[hlen];omega)];simp only[NV.v] at hval ⊢;rw[hval]
 rfl
theorem qg8 (x:NV) (d:Nat) (m:af) (K:KT) (hl:x.ds.length < 2 ^ 40) (dx:Dg x.ds) (hd:0 < d) (kJ:d < 4294967296):∀ j k:Nat,k+j=x.ds.length ->
  Gi x.av (.int .u64 d) (.arr m.length 0 x.ds.length none) (.int .u64 (iz x.ds d k).2) (.int .i64 ((j:Int) - 1)) (m++[oc (iz x.ds d k).1]) K
   = K (.exit 0) (KO (.arr m.length 0 x.ds.length none) (.int .u64 (iz x.ds d x.ds.length).2) (m++[oc (iz x.ds d x.ds.length).1])):=by
 intro j
 induction j with
 | zero=>
  intro k hk;have:k=x.ds.length:=by omega
  subst this;rw[QF];simp[jZ,aw]
 | succ j ih=>
  intro k hk;have ih:=ih (k+1) (by omega);have hr:=Jb (a:=x.ds) hd k;have hq:=O8 (a:=x.ds) dx hd k j;have hlen:=xe x.ds d k;have hj:=dx j;have ej:x.ds.length - 1 - k=j:=by omega
  have mB:∀ a:Nat,a < 4294967296->ag .other .mul (.int .u64 a) (.int .u64 4294967296)=some (.int .u64 (a * 4294967296:Nat)):=fun a h=>EJ (b:=4294967296) (by omega)
  have tR:∀ l l',(m++[oc l]).set m.length (oc l')=m++[oc l']:=by
   intro l l';rw[rY _ _ (aQ _),pz,cZ]
  rw[QF,show ((j+1:Nat):Int) - 1=(j:Nat) by omega,Em,aa,oH];simp only[iz,ej] at ih;generalize iz x.ds d k=t at *;rw[mB _ (by omega),aa,mN (by omega),aa,kN,aa,my _ hj,aa,nV (by omega),aa,zu (by omega) (by omega),aa,mz,aa,fZ (by omega),aa,lE hq,pj (Aa ..) (by omega),tR,aa,BP (by omega) (by omega),aa,rF (by omega),aa];exact ih
theorem Si {x:NV} {d:Nat} (hx:NOk x) (hd:0 < d) (kJ:d < 4294967296):AP ae 170 [x.av,.int .u64 d]=some (.tup [(bK (x.v / d)).av,.int .u64 (x.v % d:Nat)]):=by
 have lx:=hx.len;obtain ⟨k1,k2⟩:=YU hx.dg hd;refine cO _ _ (uR (uS (x.v / d)) (jT _ _)) rfl (m:=[none]) ?_;rw[qgg,iF,aa,wY (by omega) (by omega),aa,aa,rF (by omega),aa];have:=qg8 x d [] (J6 (aE ae.P f170.results.toList)) lx hx.dg hd kJ x.ds.length 0 (by omega);refine this.trans ?_;have hp:=w5 (cp:=AP ae) (g:=133) (m:=[]++[oc (iz x.ds d x.ds.length).1]) (nm:=0) (ds:=(iz x.ds d x.ds.length).1) rfl;rw[xe] at hp;rw[Jc,lC (BI hx.dg hd _)] at k1;rw[qcA,show ([]:af).length=0 from rfl,hp,xP _ (BI hx.dg hd _) (by simp only[xe];omega),k2];simp only[aR,aa,NV.v];rw[qky k1]
 rfl
theorem Hb {x:NV} (hx:NOk x):AP ae 157 [x.av]=some (bK (x.v / 2)).av:=by
 refine cO _ _ (iB _) (pO _) (m:=[]) ?_;have h:=Si (d:=2) (ic hx.v_len') (by omega) (by omega);rw[fO] at h;rw[qga,cJ (cF x),ra hx.fr,aR,aa,show x.fr.v=x.v from rfl,fG (iB _) (gh _ _)];simp only[];rw[show AV.int .u64 2=.int .u64 ((2:Nat):Int) from rfl,h]
 rfl
theorem qli (ds:List Nat):ds.getD 0 0 % 2=val ds % 2:=by
 cases ds with
 | nil=>rfl
 | cons d ds=>rw[pq,val];omega
theorem Ha {x:NV} (hx:NOk x):AP ae 156 [x.av]=some (.bool (decide (x.v % 2=0))):=by
 have h0:=hx.dg 0;have h:=uH (i:=0) hx.fr (by omega);refine iK (m:=[]) ?_ (qv _ _) (by simp[jd]);rw[qf9,fG (cF x) (gh _ _),show AV.int .i64 0=.int .i64 ((0:Nat):Int) from rfl,h,aR,aa];simp only[NV.fr];rw[show AV.int .u64 2=.int .u64 ((2:Nat):Int) from rfl,BP (by omega) (by omega),aa,nL,aa,qli]
 rfl
end Go.Ab
namespace Go.Ab
open Go.Proofs.Tryz
def iZ (b:List Nat) (d s:Nat):Nat->List Nat×Nat
 | 0=>(List.replicate s 0,0)
 | i+1=>((iZ b d s i).1++[(b.getD i 0 * d+(iZ b d s i).2) % 4294967296],(b.getD i 0 * d+(iZ b d s i).2) / 4294967296)
theorem Js (b:List Nat) (d s:Nat):∀ i,(iZ b d s i).1.length=s+i
 | 0=>by simp[iZ]
 | i+1=>by simp only[iZ,aI,Js b d s i,aJ,aP];omega
theorem Pn {b:List Nat} {d:Nat} (hb:Dg b) (hd:d < 4294967296) (s:Nat):∀ i,(iZ b d s i).2 < 4294967296
 | 0=>by simp[iZ]
 | i+1=>by
  have:=Pn hb hd s i;have h1:=hb i;have h5:b.getD i 0 * d<=4294967295 * 4294967295:=qX (by omega) (by omega);simp only[iZ];omega
theorem Zj (b:List Nat) (d s:Nat):∀ i,Dg (iZ b d s i).1
 | 0=>ye _
 | i+1=>yc (Zj b d s i) (uQ (jY _ (by omega)))
theorem Zk (b:List Nat) (d s:Nat):∀ i,val (iZ b d s i).1+4294967296 ^ (s+i) * (iZ b d s i).2=4294967296 ^ s * (vs b i * d)
 | 0=>by simp[iZ,Jy,rJ]
 | i+1=>by
  have ih:=Zk b d s i;simp only[iZ,xh,Js,val,jO];have h1:=BB (4294967296 ^ (s+i)) 4294967296 (b.getD i 0 * d+(iZ b d s i).2);generalize hw:b.getD i 0 * d+(iZ b d s i).2=w at *;rw[<- hw,gB,hw] at h1
  have e:4294967296 ^ s * ((vs b i+4294967296 ^ i * b.getD i 0) * d)=4294967296 ^ s * (vs b i * d)+4294967296 ^ (s+i) * (b.getD i 0 * d):=by
   rw[gO,gB,qY,dZ,dZ]
  rw[e,<- ih,<- mw,jR,n8,jF];omega
def tV (m:af) (i:Nat) (ds:List Nat):NV:=if i=0 then ⟨false,.full,ds⟩ else ⟨false,.tok m.length 161,ds⟩
def tM (m:af) (i:Nat) (ds:List Nat):af:=if i=0 then m else nU m ds.length
theorem Tl {m:af} {i:Nat} {ds:List Nat} {v:Nat} (h:(ds.length+1) * 4<=gG):b8 none false 161 none 4 (tM m i ds) (tV m i ds).av (.lst none false .full [.int .u32 v])=some ((tV m (i+1) (ds++[v])).av,tM m (i+1) (ds++[v])):=by
 by_cases hi:i=0
 ·subst hi;simp only[tV,tM,bw,NV.av,b8,bX,aJ,aP,bp,h,az,nU,Sh.size,jX,me,true_or,kU,gd,qU,dg,aI,Nat.add_eq_zero_iff,Nat.one_ne_zero,and_false,Nat.succ_ne_zero]
 ·have:=C8 (e:=161) (b:=4) (m:=m) (es:=ds.map dg) (z:=false) (o:=.full) (y:=.int .u32 v) (by rw[bX];exact h);rw[bX] at this;simp only[tV,tM,ai hi,NV.av,ai (Nat.succ_ne_zero i)];rw[this];simp[dg]
theorem qg9 (x:NV) (d s:Nat) (m:af) (K:KT) (hl:x.ds.length < 2 ^ 40) (dx:Dg x.ds) (hd:d < 4294967296) (hs:s < 2 ^ 40):∀ j i:Nat,i+j=x.ds.length ->
  Gj x.av (.int .u64 d) (tV m i (iZ x.ds d s i).1).av (.int .u64 (iZ x.ds d s i).2) (.int .i64 i) (tM m i (iZ x.ds d s i).1) K
   = K (.exit 0) (KP (tV m x.ds.length (iZ x.ds d s x.ds.length).1).av (.int .u64 (iZ x.ds d s x.ds.length).2) (tM m x.ds.length (iZ x.ds d s x.ds.length).1)):=by
 intro j
 induction j with
 | zero=>
  intro i hi;have:i=x.ds.length:=by omega
  subst this;rw[QG,iF,aa,cX,aa,aA,ai (by omega)]
 | succ j ih=>
  intro i hi;have ih:=ih (i+1) (by omega);have h1:=dx i;have h2:=Pn dx hd s i;have hlen:=Js x.ds d s i;have h5:x.ds.getD i 0 * d<=4294967295 * 4294967295:=qX (by omega) (by omega);simp only[iZ] at ih
  rw[QG,iF,aa,cX,aa,aA,an (by omega),mN (by omega),aa,kN,aa,my _ h1,aa,EJ (by omega),aa,nV (by omega),aa,Pr (by omega),aa,mz,aa,Oe,Dd,aa,
   Tl (by rw[hlen];simp only[gG];omega),aa,Pp (by omega),aa,cB (by omega),aa]
  exact ih
theorem Sj {x:NV} {d s:Nat} (hx:NOk x) (hd:d < 4294967296) (hs:s < 2 ^ 40):AP ae 172 [x.av,.int .u64 d,.int .i64 s]=some (bK (4294967296 ^ s * (x.v * d))).av:=by
 have lx:=hx.len;have hlen:=Js x.ds d s x.ds.length;have hc:=Pn hx.dg hd s x.ds.length;have hv:=Zk x.ds d s x.ds.length;rw[jn (aQ _)] at hv;have hdg:Dg ((iZ x.ds d s x.ds.length).1++[(iZ x.ds d s x.ds.length).2]):=yc (Zj _ _ _ _) (uQ hc)
 have lp:yW none none (.int .u32 0) 4 [] (.int .i64 s) (.int .i64 s)=some ((NV.mk false .full (List.replicate s 0)).av,[]):=by
  have h1:(s:Int) * 4<=281474976710656:=by omega
  have h2:(s:Int)<=9223372036854775807:=by omega
  have h3:(0:Int)<=s:=by omega
  simp only[yW,NV.av,List.map_replicate,dg];rw[an ⟨⟨h3,trivial,h1,h2⟩,rfl,rfl⟩]
  rfl
 refine cO _ _ (iB _) (pO _) (m:=tM [] (x.ds.length+1) ((iZ x.ds d s x.ds.length).1++[(iZ x.ds d s x.ds.length).2])) ?_;rw[qgi,lp,aa];refine (qg9 x d s [] _ lx hx.dg hd hs x.ds.length 0 (by omega)).trans ?_
 have hfz:Fz (tV [] (x.ds.length+1) ((iZ x.ds d s x.ds.length).1++[(iZ x.ds d s x.ds.length).2])).av (NV.mk false .no ((iZ x.ds d s x.ds.length).1++[(iZ x.ds d s x.ds.length).2])).av:=by
  have:=cF (tV [] (x.ds.length+1) ((iZ x.ds d s x.ds.length).1++[(iZ x.ds d s x.ds.length).2]));unfold tV at this ⊢;rw[ai (by omega)] at this ⊢;exact this
 rw[qcD,mz,aa,Dd,aa,lE hc,Tl (by rw[hlen];simp only[gG];omega),aa,cJ hfz,xP _ hdg (by simp only[aI,hlen,aJ,aP];omega)];simp only[aR,aa,NV.v] at hv ⊢;rw[xh,hlen,val,val,n8,jF,hv]
theorem qoq {a b p q top lead:Nat} (hq:q * b<=a) (ha:a < (top+1) * p) (hb:lead * p<=b) (hl:0 < lead):q<=top / lead:=by
 rw[GG hl];have h1:q * lead * p<=q * b:=by rw[dZ];exact kG _ hb
 have h2:q * lead * p < (top+1) * p:=by omega
 have:=GH h2;omega
theorem qop {a b p top lead:Nat} (ha:top * p<=a) (hb:b<=(lead+1) * p) (hb0:0 < b):top / (lead+1)<=a / b:=by
 rw[GG hb0];have h1:top / (lead+1) * b<=top / (lead+1) * ((lead+1) * p):=kG _ hb;rw[<- dZ] at h1;have h2:top / (lead+1) * (lead+1) * p<=top * p:=iM _ (GF _ _);omega
theorem qpM {a:List Nat} {k:Nat} (ha:Dg a) (h:val a < 4294967296 ^ (k+2)):(a.getD (k+1) 0 * 4294967296+a.getD k 0) * 4294967296 ^ k<=val a/\val a < (a.getD (k+1) 0 * 4294967296+a.getD k 0+1) * 4294967296 ^ k:=by
 have h1:val a=vs a (k+2):=by
  have hz:∀ j,vs a (k+2+j)=vs a (k+2):=by
   intro j
   induction j with
   | zero=>rfl
   | succ j ih=>
    rw[<- mw,jO,ih];have hle:=ZB a (k+2+j+1);rw[jO] at hle;have hp:4294967296 ^ (k+2)<=4294967296 ^ (k+2+j):=py (by omega) (by omega)
    have h0:a.getD (k+2+j) 0=0:=by
     apply qj;intro hn;have:4294967296 ^ (k+2+j) * 1<=4294967296 ^ (k+2+j) * a.getD (k+2+j) 0:=kG _ (by omega);omega
    rw[h0,n8,jF]
  rw[<- jn (a:=a) (i:=k+2+a.length) (by omega)];exact hz a.length
 have h2:=xj ha k;rw[h1,jO,jO,jR,gO _ 1,gO,dZ,cM (4294967296 ^ k) (a.getD k 0),cM (4294967296 ^ k) 4294967296,cM (4294967296 * 4294967296 ^ k)];omega
theorem qgK {x y:NV} {i n:Nat} (hx:NOk x) (hy:NOk y) (hi:i < 2 ^ 40) (hn:y.ds.length=n) (lS:1<=n) (qlQ:y.ds.getD (n - 1) 0≠0) (hq:x.v / (y.v * 4294967296 ^ i) < 4294967296) :
  ∃ lo hi:Nat,AP ae 171 [x.av,y.av,.int .i64 i]=some (.tup [.int .u64 lo,.int .u64 hi])/\lo<=x.v / (y.v * 4294967296 ^ i)/\x.v / (y.v * 4294967296 ^ i)<=hi/\hi < 4294967296:=by
 have lx:=hx.len;have ly:=hy.len;obtain ⟨k,rfl⟩:∃ k,n=k+1:=⟨n - 1,by omega⟩;rw[pw] at qlQ;have yQ:y.v=vs y.ds k+4294967296 ^ k * y.ds.getD k 0:=by rw[NV.v,<- jn (Nat.le_of_eq hn),jO]
 have gY:=xj hy.dg k;have wH:=hy.dg k;have Nq:0 < 4294967296 ^ i:=Nat.pow_pos (by omega);have sJ:0 < 4294967296 ^ k:=Nat.pow_pos (by omega)
 have hyp:0 < y.v:=by
  rw[yQ];have:4294967296 ^ k * 1<=4294967296 ^ k * y.ds.getD k 0:=kG _ (by omega);omega
 have hb0:0 < y.v * 4294967296 ^ i:=Nat.mul_pos hyp Nq
 have hb1:y.ds.getD k 0 * 4294967296 ^ (k+i)<=y.v * 4294967296 ^ i:=by
  rw[qY,<- dZ];exact iM _ (by rw[yQ,cM];omega)
 have hb2:y.v * 4294967296 ^ i<=(y.ds.getD k 0+1) * 4294967296 ^ (k+i):=by
  rw[qY,<- dZ];refine iM _ ?_;rw[yQ,gO,px,cM];omega
 have qmz:val x.ds < 4294967296 ^ (k+i+2):=by
  rw[uE hb0] at hq;have h1:(y.ds.getD k 0+1) * 4294967296 ^ (k+i)<=4294967296 * 4294967296 ^ (k+i):=iM _ wH;have h2:4294967296 * (y.v * 4294967296 ^ i)<=4294967296 * (4294967296 * 4294967296 ^ (k+i)):=kG _ (dY hb2 h1);rw[jR,jR]
  have h3:4294967296 ^ (k+i) * 4294967296 * 4294967296=4294967296 * (4294967296 * 4294967296 ^ (k+i)):=by
   rw[cM,cM (4294967296 ^ (k+i))]
  rw[h3];exact qV hq h2
 obtain ⟨t1,t2⟩:=qpM hx.dg qmz;have d1:=hx.dg (k+i+1);have d2:=hx.dg (k+i);have qle:x.v / (y.v * 4294967296 ^ i)<=(x.ds.getD (k+i+1) 0 * 4294967296+x.ds.getD (k+i) 0) / y.ds.getD k 0:=qoq (GF _ _) t2 hb1 (by omega);have qge:(x.ds.getD (k+i+1) 0 * 4294967296+x.ds.getD (k+i) 0) / (y.ds.getD k 0+1)<=x.v / (y.v * 4294967296 ^ i):=qop t1 hb2 hb0;have hfz:=uR (jT .u64 0) (jT .u64 0)
 have key:∃ lo hi:Nat,AC ae 171 [x.av,y.av,.int .i64 i] []=some (.tup [.int .u64 lo,.int .u64 hi],[])/\lo<=x.v / (y.v * 4294967296 ^ i)/\x.v / (y.v * 4294967296 ^ i)<=hi/\hi < 4294967296:=by
  have e1:i+(k+1)=k+i+1:=by omega
  have uB:∀ a:Nat,ag .other .lss (.int .u64 a) (.int .u64 4294967295)=some (.bool (decide (a < 4294967295))):=fun a=>cX (b:=4294967295);have u0:∀ a:Nat,ag .other .gtr (.int .u64 0) (.int .u64 a)=some (.bool (decide (0 > a))):=fun a=>Bq (a:=0);have u0B:ag .other .gtr (.int .u64 0) (.int .u64 4294967295)=some (.bool false):=rfl;have uaB:∀ a:Nat,ag .other .gtr (.int .u64 a) (.int .u64 4294967295)=some (.bool (decide (a > 4294967295))):=fun a=>Bq (b:=4294967295);have ua1:∀ a:Nat,a < 4294967296->ag .other .add (.int .u64 a) (.int .u64 1)=some (.int .u64 (a+1:Nat)):=fun a h=>nV (b:=1) (by omega);rw[qgh,iF,hn,aa,kM (by omega),aa,fG (cF x) (gh _ _),uH hx.fr (by omega),aR,aa];rw[show x.fr.ds=x.ds from rfl,e1,EL (hx.dg _),aa,aa,oY (by omega) (by omega),aa,pw,fG (cF x) (gh _ _),uH hx.fr (by omega),aR,aa];rw[show x.fr.ds=x.ds from rfl,EK (hx.dg _) (hx.dg _),aa,oY (by omega) (by omega),aa,pw,mN (by omega),aa,kN,aa,my _ wH,aa,zu (by omega) (by omega),aa,uB,aa,aA];have hdl:=xM (x.ds.getD (k+i+1) 0 * 4294967296+x.ds.getD (k+i) 0) (y.ds.getD k 0+1);have uq:ag .other .quo (.int .u64 (x.ds.getD (k+i+1) 0 * 4294967296+x.ds.getD (k+i) 0:Nat)) (.int .u64 (y.ds.getD k 0+1:Nat))=some (.int .u64 ((x.ds.getD (k+i+1) 0 * 4294967296+x.ds.getD (k+i) 0) / (y.ds.getD k 0+1):Nat)):=zu (by omega) (by omega)
  by_cases c1:(x.ds.getD (k+i+1) 0 * 4294967296+x.ds.getD (k+i) 0) / y.ds.getD k 0 < 4294967295
  ·rw[an c1,aa,ua1 _ wH,aa,IG,aa,aA]
   by_cases c2:y.ds.getD k 0+1 < 4294967296
   ·rw[an c2,aa,uq,aa,IG,aa,aA]
    by_cases c3:(x.ds.getD (k+i+1) 0 * 4294967296+x.ds.getD (k+i) 0) / (y.ds.getD k 0+1) < 4294967296
    ·rw[an c3,aa,uq,aa,Bq,aa,aA,ai (by omega)];exact ⟨_,_,rfl,qge,qle,by omega⟩
    ·rw[ai c3,u0,aa,aA,ai (Nat.not_lt_zero _)];exact ⟨0,_,rfl,kW _,qle,by omega⟩
   ·rw[ai c2,u0,aa,aA,ai (Nat.not_lt_zero _)];exact ⟨0,_,rfl,kW _,qle,by omega⟩
  ·rw[ai c1,ua1 _ wH,aa,IG,aa,aA]
   by_cases c2:y.ds.getD k 0+1 < 4294967296
   ·rw[an c2,aa,uq,aa,IG,aa,aA]
    by_cases c3:(x.ds.getD (k+i+1) 0 * 4294967296+x.ds.getD (k+i) 0) / (y.ds.getD k 0+1) < 4294967296
    ·rw[an c3,aa,uq,aa,uaB,aa,aA,ai (by omega)];exact ⟨_,4294967295,rfl,qge,by omega,by omega⟩
    ·rw[ai c3,u0B,aa,oG];exact ⟨0,4294967295,rfl,kW _,by omega,by omega⟩
   ·rw[ai c2,u0B,aa,oG];exact ⟨0,4294967295,rfl,kW _,by omega,by omega⟩
 obtain ⟨lo,fQ,k1,k2⟩:=key;exact ⟨lo,fQ,cO _ _ (uR (jT _ _) (jT _ _)) rfl k1,k2⟩
end Go.Ab
namespace Go.Ab
open Go.Proofs.Tryz
theorem Ua {b s d:Nat} (hd:d < 4294967296):(aC (4294967296 ^ s * (b * d))).length<=s+((aC b).length+1):=by
 refine mF ?_;rw[qY];refine Nat.mul_lt_mul_of_pos_left ?_ (Nat.pow_pos (by omega));have h:=mS (gu b);rw[gz] at h;rw[jR];exact Nat.mul_lt_mul'' h hd
theorem qg5 {a b i q:Nat} (K:KT) (x9:AV) (m:af) (la:(aC a).length < 2 ^ 40) (lb:(aC b).length < 2 ^ 40) (hi:i < 2 ^ 39) (lb2:(aC b).length+i+1 < 2 ^ 40) (hq:q=a / (b * 4294967296 ^ i)) (hb:0 < b):∀ (r lo fQ:Nat),fQ - lo<=r->lo<=q->q<=fQ->fQ < 4294967296 ->
  Ci (bK a).av (bK b).av x9 (.int .i64 i) (.int .u64 lo) (.int .u64 fQ) m K=K (.exit 2) (KL (bK a).av (bK b).av x9 (.int .i64 i) (.int .u64 q) m):=by
 have Nq:0 < 4294967296 ^ i:=Nat.pow_pos (by omega);have hbp:0 < b * 4294967296 ^ i:=Nat.mul_pos hb Nq;intro r
 induction r with
 | zero=>
  intro lo fQ hr h1 h2 h3;have:lo=q:=by omega
  subst this;rw[Qt,cX,aa,aA,ai (by omega)]
 | succ r ih=>
  intro lo fQ hr h1 h2 h3;rw[Qt,cX,aa,aA]
  by_cases hlt:lo < fQ
  ·have u1:∀ a:Nat,a < 4294967296->ag .other .add (.int .u64 a) (.int .u64 1)=some (.int .u64 (a+1:Nat)):=fun a h=>nV (b:=1) (by omega);have u2:∀ a:Nat,a < 4294967298->ag .other .quo (.int .u64 a) (.int .u64 2)=some (.int .u64 (a / 2:Nat)):=fun a h=>zu (b:=2) (by omega) (by omega);rw[an hlt,zw (by omega) (by omega),aa,u1 _ (by omega),aa,u2 _ (by omega),aa,nV (by omega),aa];generalize Vz:lo+(fQ - lo+1) / 2=mid;have lQ:lo < mid:=by omega
   have fU:mid<=fQ:=by omega
   have hpl:=Ua (b:=b) (s:=i) (d:=mid) (by omega);rw[IN (iB b) (gh _ _) (gh _ _),Sj (ic lb) (by omega) (by omega),aR,aa,fO,fG (iB _) (iB a),CY (ic (by omega)) (ic la),aR,aa,si,aa,aA,fO,fO]
   have HT:gQ (4294967296 ^ i * (b * mid)) a<=0↔mid<=q:=by
    rw[hq,GG hbp];have e:mid * (b * 4294967296 ^ i)=4294967296 ^ i * (b * mid):=by rw[cM,cM b,dZ]
    rw[e];unfold gQ
    constructor
    ·intro h;apply vR;intro hc;rw[ai (by omega),an hc] at h;omega
    ·intro h
     split
     ·omega
     ·rw[ai (by omega)];omega
   by_cases hc:mid<=q
   ·rw[an (HT.2 hc)];exact ih mid fQ (by omega) hc h2 h3
   ·rw[ai (fun h=>hc (HT.1 h)),Ju (by omega) (by omega),aa];exact ih lo (mid - 1) (by omega) h1 (by omega) (by omega)
  ·have:lo=q:=by omega
   subst this;rw[ai hlt]
structure DInv (a0 b la j:Nat) (a:Nat) (q:List Nat):Prop where
 dq:Dg q
 lq:q.length=la
 lt:a < b * 4294967296 ^ j
 eq:wn q j (la - j) * (b * 4294967296 ^ j)+a=a0
theorem DInv.step {a0 b la j a:Nat} {q:List Nat} (hb:0 < b) (hj:j < la) (h:DInv a0 b la (j+1) a q) :
  a / (b * 4294967296 ^ j) < 4294967296/\DInv a0 b la j (a % (b * 4294967296 ^ j)) (q.set j (a / (b * 4294967296 ^ j))):=by
 have hp:0 < b * 4294967296 ^ j:=Nat.mul_pos hb (Nat.pow_pos (by omega));have e0:b * 4294967296 ^ (j+1)=4294967296 * (b * 4294967296 ^ j):=by rw[jR,<- dZ,cM]
 have hlt:=h.lt;have heq:=h.eq;rw[e0] at hlt heq;have hq:a / (b * 4294967296 ^ j) < 4294967296:=by rw[uE hp];exact hlt
 refine ⟨hq,h.dq.set _ _ hq,by rw[a8,h.lq],jY _ hp,?_⟩;obtain ⟨r,hr⟩:∃ r,la - j=r+1:=⟨la - j - 1,by omega⟩;rw[hr,EW,rm (by rw[h.lq];exact hj),uk (by omega),<- heq,show la - (j+1)=r by omega];have h2:=uD a (b * 4294967296 ^ j);generalize b * 4294967296 ^ j=p at *;rw[gO,cM (a / p),cM 4294967296,dZ];omega
theorem qg4 {a0 b la:Nat} (K:KT) (hb:0 < b) (lla:la < 2 ^ 39) (l0:(aC a0).length < 2 ^ 39) (lb:(aC b).length < 2 ^ 39):∀ (j a:Nat) (q:List Nat),j<=la->a<=a0->DInv a0 b la j a q ->
  ∃ a' q',DInv a0 b la 0 a' q'/\Ga (bK a).av (bK b).av (.arr 0 0 la none) (.int .i64 ((j:Int) - 1)) [oc q] K=K (.exit 0) (KJ (bK a').av (.arr 0 0 la none) [oc q']):=by
 intro j
 induction j with
 | zero=>
  intro a q _ _ hI;refine ⟨a,q,hI,?_⟩;rw[Qs];simp[jZ,aw]
 | succ j ih=>
  intro a q hj ha hI;obtain ⟨hq,Dx⟩:=hI.step hb (by omega);have la':(aC a).length < 2 ^ 39:=jq (lh ha) l0;have yA:=hI.lq;obtain ⟨a',q',i1,i2⟩:=ih _ _ (by omega) (dY (Nat.mod_le _ _) ha) Dx;refine ⟨a',q',i1,?_⟩;have lN:b≠0:=by omega
  have vd:(aC b).length≠0:=fun e=>lN (mX.1 e);obtain ⟨lo,fQ,g1,g2,g3,g4⟩:=qgK (i:=j) (n:=(aC b).length) (ic (n:=a) (by omega)) (ic (n:=b) (by omega)) (by omega) (by rw[kg]) (by omega) (by rw[kg];exact Hx lN) (by rw[fO,fO];exact hq);rw[fO,fO] at g2 g3;rw[Qs,show ((j+1:Nat):Int) - 1=(j:Nat) by omega,Em,aa,oH,IN (iB a) (iB b) (gh _ _),g1,aR,aa];simp only[aY]
  rw[show ([AV.int .u64 lo,AV.int .u64 fQ]:List AV)[0]?=some (.int .u64 lo) from rfl,show ([AV.int .u64 lo,AV.int .u64 fQ]:List AV)[1]?=some (.int .u64 fQ) from rfl,aa,aa,
   qg5 (JZ K) _ _ (by omega) (by omega) (by omega) (by omega) rfl hb (fQ - lo) lo fQ (aQ _) g2 g3 g4]
  have hpl:=Ua (b:=b) (s:=j) (d:=a / (b * 4294967296 ^ j)) hq;have he:4294967296 ^ j * (b * (a / (b * 4294967296 ^ j)))=b * 4294967296 ^ j * (a / (b * 4294967296 ^ j)):=by rw[<- dZ,cM b]
  have gZ:a - 4294967296 ^ j * (b * (a / (b * 4294967296 ^ j)))=a % (b * 4294967296 ^ j):=by
   rw[he];have:=uD a (b * 4294967296 ^ j);omega
  have hle:¬ a < 4294967296 ^ j * (b * (a / (b * 4294967296 ^ j))):=by
   rw[he];have:=uD a (b * 4294967296 ^ j);omega
  rw[qbQ,mz,aa,lE hq,fZ (by omega),aa,pj (m:=[oc q]) (n:=0) (ds:=q) rfl (by omega),aa,IN (iB b) (gh _ _) (gh _ _),Sj (ic (n:=b) (by omega)) hq (by omega),aR,aa,fO,
   fG (iB a) (iB (4294967296 ^ j * (b * (a / (b * 4294967296 ^ j))))),CZ (ic (n:=a) (by omega)) (ic (n:=4294967296 ^ j * (b * (a / (b * 4294967296 ^ j)))) (by omega)) (jL a) (jL (4294967296 ^ j * (b * (a / (b * 4294967296 ^ j))))),aR,aa]
  unfold BK;rw[fO,fO,ai hle,gZ];simp only[aY];rw[show ([(bK (a % (b * 4294967296 ^ j))).av,AV.int .i64 0]:List AV)[0]?=some (bK (a % (b * 4294967296 ^ j))).av from rfl,show ([(bK (a % (b * 4294967296 ^ j))).av,AV.int .i64 0]:List AV)[1]?=some (.int .i64 0) from rfl,aa,aa,rF (by omega),aa];exact i2
def L8 (x y:NV):AV:=if y.v=0 then .tup [Bt,Bt,.int .i64 31] else .tup [(bK (x.v / y.v)).av,(bK (x.v % y.v)).av,.int .i64 0]
theorem qoy:(bK 0).av=au:=by rw[bK,lF];rfl
theorem Sb {x y:NV} (hx:NOk x) (hy:NOk y) (lx:(aC x.v).length < 2 ^ 39) (ly:(aC y.v).length < 2 ^ 39):AP ae 137 [x.av,y.av]=some (L8 x y):=by
 have e1:=ra hx.fr;have e2:=ra hy.fr;rw[show x.fr.v=x.v from rfl] at e1;rw[show y.fr.v=y.v from rfl] at e2;have hX:=ic (n:=x.v) (by omega);have hY:=ic (n:=y.v) (by omega);unfold L8
 by_cases h0:y.v=0
 ·rw[an h0];refine cO _ _ (wu AH AH (jT _ _)) rfl (m:=[]) ?_;rw[G6,cJ (cF x),e1,aR,aa,cJ (cF y),e2,aR,aa,pf,aa,nL,aa,aA,an (mX.2 h0)]
 ·rw[ai h0];have lR:¬ (aC y.v).length=0:=fun e=>h0 (mX.1 e)
  by_cases h2:y.v < 4294967296
  ·have lS:(aC y.v).length=1:=Hy.2 ⟨h0,h2⟩
   have AS:(aC y.v).getD 0 0=y.v:=by
    rw[yf h0,pq,lE h2]
   have hlt:x.v % y.v < y.v:=jY _ (by omega);refine cO _ _ (wu (uS (x.v / y.v)) (uS (x.v % y.v)) (jT _ _)) rfl (m:=[]) ?_;have e4:=Si (d:=y.v) hX (by omega) h2;rw[fO] at e4
   rw[G6,cJ (cF x),e1,aR,aa,cJ (cF y),e2,aR,aa,pf,aa,nL,aa,aA,ai lR,aa,vw,aa,aA,an lS,
    Im (by rw[kg,lS];omega),aa,kN,aa,kg,AS,my _ h2,aa,fG (iB _) (gh _ _),e4,aR,aa]
   simp only[aY]
   rw[show ([(bK (x.v / y.v)).av,AV.int .u64 (x.v % y.v:Nat)]:List AV)[0]?=some (bK (x.v / y.v)).av from rfl,show ([(bK (x.v / y.v)).av,AV.int .u64 (x.v % y.v:Nat)]:List AV)[1]?=some (AV.int .u64 (x.v % y.v:Nat)) from rfl,aa,aa,
    cJ (gh _ _),CX (by omega),aR,aa]
  ·have lS:¬ (aC y.v).length=1:=fun e=>h2 (Hy.1 e).2
   by_cases h3:(aC x.v).length < (aC y.v).length
   ·have hlt:x.v < y.v:=by
     apply Nat.lt_of_not_le;intro h;have:=lh h;omega
    rw[Aj hlt,lE hlt];refine cO _ _ (wu (uS 0) (uS x.v) (jT _ _)) rfl (m:=[]) ?_
    rw[G6,cJ (cF x),e1,aR,aa,cJ (cF y),e2,aR,aa,pf,aa,nL,aa,aA,ai lR,aa,vw,aa,aA,ai lS,
     pf,aa,aa,cX,aa,aA,an h3,qoy]
   ·have hb:0 < y.v:=oP h0
    have hI:DInv x.v y.v (aC x.v).length ((aC x.v).length - (aC y.v).length+1) x.v (List.replicate (aC x.v).length 0):=by
     refine ⟨ye _,uy,?_,?_⟩
     ·have h4:=mS (gu x.v);rw[gz] at h4;have h5:=Hz (n:=y.v) (k:=(aC y.v).length - 1) (by omega);refine qV h4 ?_;refine dY ?_ (iM _ h5);rw[<- qY];exact py (by omega) (by omega)
     ·rw[PD _ (fun k _=>HM _ _),xN,bp]
    obtain ⟨a',q',i1,i2⟩:=qg4 (JY (aE ae.P f137.results.toList)) hb lx lx ly _ _ _ (by omega) (aQ _) hI;have heq:=i1.eq;have hlt:=i1.lt;have yA:=i1.lq;rw[Nat.pow_zero,kV] at heq hlt;rw[Nat.sub_zero,EX,jn (by omega)] at heq;obtain ⟨k1,k2⟩:=wk heq.symm hlt;refine cO _ _ (wu (uS (x.v / y.v)) (uS (x.v % y.v)) (jT _ _)) rfl (m:=[none]) ?_;have hp:=w5 (cp:=AP ae) (g:=133) (m:=[oc q']) (nm:=0) (ds:=q') rfl;rw[yA] at hp
    rw[G6,cJ (cF x),e1,aR,aa,cJ (cF y),e2,aR,aa,pf,aa,nL,aa,aA,ai lR,aa,vw,aa,aA,ai lS,
     pf,aa,aa,cX,aa,aA,ai h3,aa,wY (by omega) (by omega),aa,aa,aa,nk (by omega) (by omega),aa]
    rw[show (((aC x.v).length - (aC y.v).length+1:Nat):Int) - 1=(((aC x.v).length - (aC y.v).length:Nat):Int) by omega] at i2
    refine Eq.trans ?_ (i2.trans ?_)
    ·rfl
    rw[qbL,hp,xP _ i1.dq (by simp only[yA];omega),aR,aa];simp only[NV.v] at k1 k2 ⊢;rw[k1,k2]
    rfl
end Go.Ab
namespace Go.Ab
open Go.Proofs.Tryz
theorem qpO {tk:TK} {a:Nat} (h:a < 4294967296):ag tk .quo (.int .u32 a) (.int .u32 2)=some (.int .u32 (a / 2:Nat)):=by
 have e:ag tk .quo (.int .u32 a) (.int .u32 2)=some (.int .u32 (IntKind.wrap .u32 ((a:Int).tdiv 2))):=by cases tk<;>rfl
 have e2:(a:Int).tdiv 2=((a / 2:Nat):Int):=rfl;rw[e,e2,zz (by omega) (by omega)]
theorem qg3 (K:KT) (m:af):∀ (r x n:Nat),x < 2 ^ r->r<=32->n+r < 2 ^ 60->∃ k,k<=n+r/\(0 < n\/0 < x->0 < k)/\(n=0->x=0->k=0)/\F9 (.int .i64 n) (.int .u32 x) m K=K (.exit 0) (KI (.int .i64 k) m):=by
 intro r
 induction r with
 | zero=>
  intro x n hx hr hn;have:x=0:=by simpa using hx
  subst this;refine ⟨n,by omega,by omega,fun h _=>h,?_⟩;rw[Qr,vx,aa,aA,ai (by omega)]
 | succ r ih=>
  intro x n hx hr hn;rw[Qr,vx,aa,aA]
  by_cases h:x > 0
  ·have hp:2 ^ (r+1)<=2 ^ 32:=py (by omega) hr;rw[an h,cB (by omega),aa,qpO (by omega),aa];rw[jR] at hx;obtain ⟨k,k1,k2,k3,k4⟩:=ih (x / 2) (n+1) (by omega) (by omega) (by omega);exact ⟨k,by omega,fun _=>k2 (.inl (by omega)),by omega,k4⟩
  ·rw[ai h];exact ⟨n,by omega,by omega,fun h _=>h,rfl⟩
theorem qgE {x:NV} (hx:NOk x):∃ k:Nat,AP ae 136 [x.av]=some (.int .i64 k)/\(k=0↔x.v=0):=by
 have lx:=hx.v_len';have e1:=ra hx.fr;rw[show x.fr.v=x.v from rfl] at e1
 by_cases h0:x.v=0
 ·refine ⟨0,iK (m:=[]) (v:=.int .i64 (0:Nat)) ?_ (gh _ _ _) (by simp[jd]),by simp[h0]⟩;rw[RS,cJ (cF x),e1,aR,aa,pf,aa,nL,aa,aA,an (mX.2 h0)]
  rfl
 ·have lR:¬ (aC x.v).length=0:=fun e=>h0 (mX.1 e);have oW:=Hx h0;have hd:=gu x.v ((aC x.v).length - 1);obtain ⟨k,k1,k2,k3,k4⟩:=qg3 (JX (aE ae.P f136.results.toList)) [] 32 ((aC x.v).getD ((aC x.v).length - 1) 0) (32 * ((aC x.v).length - 1)) (by omega) (by omega) (by omega)
  have m32:∀ a:Nat,a < 2 ^ 41->ag .other .mul (.int .i64 32) (.int .i64 a)=some (.int .i64 (32 * a:Nat)):=by
   intro a ha;rw[we,iQ (by omega) (by omega)];rfl
  have tN:=k2 (.inr (oP oW));refine ⟨k,iK (m:=[]) (v:=.int .i64 (k:Nat)) ?_ (gh _ _ _) (by simp[jd]),by omega⟩;rw[RS,cJ (cF x),e1,aR,aa,pf,aa,nL,aa,aA,ai lR,aa,oY (by omega) (by omega),aa,m32 _ (by omega),aa,aa,oY (by omega) (by omega),aa,mN (by rw[kg];omega),aa,kN,aa,kg];refine k4.trans ?_;rw[qbI]
theorem Me {a:Nat} (h:a % 2=0):2 * (a / 2)=a:=by omega
theorem Uz {a b:Nat} (ha:a % 2=0) (hb:b % 2=1):Nat.gcd (a / 2) b=Nat.gcd a b:=by
 have hc:Nat.Coprime 2 b:=by
  rw[Nat.coprime_iff_gcd_eq_one,Nat.gcd_rec,hb]
  rfl
 have:=Nat.Coprime.gcd_mul_left_cancel (a / 2) hc;rw[Me ha] at this;exact this.symm
theorem HS {a:Nat} (h:(aC a).length < 2 ^ 39):(aC (a / 2)).length < 2 ^ 39:=jq (lh (xM _ _)) h
theorem qgY (K:KT) (m:af):∀ (n x y:Nat),y=n->x < 18446744073709551616->y < 18446744073709551616->FU (.int .u64 x) (.int .u64 y) m K=K (.exit 0) (KB (.int .u64 (Nat.gcd x y:Nat)) m):=by
 intro n
 induction n using Nat.strongRecOn with
 | ind n ih=>
  intro x y hn hx hy;rw[qfe,qnt,aa,aA]
  by_cases h:y=0
  ·rw[ai (fun hh=>hh h),h,Nat.gcd_zero_right]
  ·have hlt:x % y < y:=jY _ (oP h);rw[an h,BP h hx,aa,ih (x % y) (by omega) y (x % y) rfl hy (by omega),uF y,<- Nat.gcd_rec,uF]
theorem qgU (K:KT) (m:af):∀ (n a b t:Nat),a=n->0 < a->0 < b->0 < t->(aC (a * t)).length < 2 ^ 39->(aC a).length < 2 ^ 39->(aC b).length < 2 ^ 39->(aC t).length < 2 ^ 39 ->
  ∃ a' b' t',0 < a'/\0 < b'/\0 < t'/\a'<=a/\b'<=b/\(a' % 2=1\/b' % 2=1)/\Nat.gcd a' b' * t'=Nat.gcd a b * t/\(aC t').length < 2 ^ 39/\zO (bK a).av (bK b).av (bK t).av m K=K (.exit 2) (GM (bK a').av (bK b').av (bK t').av m):=by
 intro n
 induction n using Nat.strongRecOn with
 | ind n ih=>
  intro a b t hn ha hb ht iT la lb lt;rw[qfa,cJ (iB a),Ha (ic (by omega)),fO,aR,aa,aA]
  by_cases h1:a % 2=0
  ·rw[an h1,cJ (iB b),Ha (ic (by omega)),fO,aR,aa,aA]
   by_cases h2:b % 2=0
   ·have ea:=Me h1;have eb:=Me h2
    have e:a / 2 * (t+t)=a * t:=by
     rw[<- Nat.mul_two,<- dZ,Nat.mul_right_comm,cM (a / 2) 2,ea]
    have ltt:(aC (t+t)).length < 2 ^ 39:=by
     refine jq (lh (b:=a * t) ?_) iT;rw[<- e];exact Nat.le_mul_of_pos_left _ (by omega)
    obtain ⟨a',b',t',k1,k2,k3,k4,k5,k6,k7,k8,k9⟩:=ih (a / 2) (by omega) (a / 2) (b / 2) (t+t) rfl (by omega) (by omega) (by omega) (by rw[e];exact iT) (HS la) (HS lb) ltt
    refine ⟨a',b',t',k1,k2,k3,by omega,by omega,k6,?_,k8,?_⟩
    ·rw[k7]
     have:Nat.gcd a b=2 * Nat.gcd (a / 2) (b / 2):=by
      conv=>lhs;rw[<- ea,<- eb]
      exact Nat.gcd_mul_left _ _ _
     rw[this,<- Nat.mul_two,<- dZ,Nat.mul_right_comm,cM _ 2]
    ·rw[an h2,cJ (iB a),Hb (ic (by omega)),fO,aR,aa,cJ (iB b),Hb (ic (by omega)),fO,aR,aa,fG (iB t) (iB t),Su (ic (by omega)) (ic (by omega)) (jL _) (jL _),fO,aR,aa];exact k9
   ·rw[ai h2];exact ⟨a,b,t,ha,hb,ht,aQ _,aQ _,.inr (by omega),rfl,lt,rfl⟩
  ·rw[ai h1];exact ⟨a,b,t,ha,hb,ht,aQ _,aQ _,.inl (by omega),rfl,lt,rfl⟩
theorem qgW (K:KT) (m:af) (xb xt:AV) (b:Nat):∀ (n a:Nat),a=n->0 < a->(a % 2=1\/b % 2=1)->(aC a).length < 2 ^ 39 ->
  ∃ a',0 < a'/\a'<=a/\a' % 2=1/\Nat.gcd a' b=Nat.gcd a b/\FR (bK a).av xb xt m K=K (.exit 6) (Kz (bK a').av xb xt m):=by
 intro n
 induction n using Nat.strongRecOn with
 | ind n ih=>
  intro a hn ha lL la;rw[qfc,cJ (iB a),Ha (ic (by omega)),fO,aR,aa,aA]
  by_cases h1:a % 2=0
  ·have hb1:b % 2=1:=by omega
   obtain ⟨a',k1,k2,k3,k4,k5⟩:=ih (a / 2) (by omega) (a / 2) rfl (by omega) (.inr hb1) (HS la);rw[an h1,cJ (iB a),Hb (ic (by omega)),fO,aR,aa];exact ⟨a',k1,by omega,k3,by rw[k4,Uz h1 hb1],k5⟩
  ·rw[ai h1];exact ⟨a,ha,aQ _,by omega,rfl,rfl⟩
theorem qgX (K:KT) (m:af) (xa xt:AV) (a:Nat) (ha:a % 2=1):∀ (n b:Nat),b=n->0 < b->(aC b).length < 2 ^ 39 ->
  ∃ b',0 < b'/\b'<=b/\b' % 2=1/\Nat.gcd a b'=Nat.gcd a b/\FT xa (bK b).av xt m K=K (.exit 8) (KA xa (bK b').av xt m):=by
 intro n
 induction n using Nat.strongRecOn with
 | ind n ih=>
  intro b hn hb lb;rw[qfd,cJ (iB b),Ha (ic (by omega)),fO,aR,aa,aA]
  by_cases h1:b % 2=0
  ·obtain ⟨b',k1,k2,k3,k4,k5⟩:=ih (b / 2) (by omega) (b / 2) rfl (by omega) (HS lb);rw[an h1,cJ (iB b),Hb (ic (by omega)),fO,aR,aa];exact ⟨b',k1,by omega,k3,by rw[k4,uF a,Uz h1 ha,uF],k5⟩
  ·rw[ai h1];exact ⟨b,hb,aQ _,by omega,rfl,rfl⟩
theorem qgV (K:KT) (m:af) (xt:AV):∀ (n a b:Nat),a+b=n->0 < a->(a % 2=1\/b % 2=1)->(aC a).length < 2 ^ 39->(aC b).length < 2 ^ 39 ->
  Cf (bK a).av (bK b).av xt m K=K (.exit 4) (Ky (bK (Nat.gcd a b)).av xt m):=by
 intro n
 induction n using Nat.strongRecOn with
 | ind n ih=>
  intro a b hn ha lL la lb;rw[qfb,pf,aa,vx,aa,aA]
  by_cases hb:b=0
  ·rw[ai (by rw[hb,lF];simp),hb,Nat.gcd_zero_right]
  ·have vd:(aC b).length≠0:=fun e=>hb (mX.1 e);obtain ⟨a',k1,k2,k3,k4,k5⟩:=qgW (JQ K) m (bK b).av xt b a a rfl ha lL la;obtain ⟨b',j1,j2,j3,j4,j5⟩:=qgX (JR K) m (bK a').av xt a' k3 b b rfl (by omega) lb;have la':(aC a').length < 2 ^ 39:=jq (lh k2) la;have lb':(aC b').length < 2 ^ 39:=jq (lh j2) lb;rw[an (by omega),k5,qaS,j5,qaW,fG (iB a') (iB b'),CY (ic (by omega)) (ic (by omega)),fO,fO,aR,aa,ir,aa,aA];have hg:Nat.gcd a' b'=Nat.gcd a b:=by rw[j4,k4]
   by_cases AZ:a' > b'
   ·have hc:gQ a' b' > 0:=by unfold gQ;rw[ai (by omega),an AZ];omega
    rw[an hc,fG (iB a') (iB b'),CZ (ic (by omega)) (ic (by omega)) (jL _) (jL _),BK,fO,fO,ai (by omega),aR,aa];simp only[aY];rw[show ([(bK (a' - b')).av,AV.int .i64 0]:List AV)[0]?=some (bK (a' - b')).av from rfl,show ([(bK (a' - b')).av,AV.int .i64 0]:List AV)[1]?=some (.int .i64 0) from rfl,aa,aa];have lab:(aC (a' - b')).length < 2 ^ 39:=jq (lh (Nat.sub_le _ _)) la';rw[ih (b'+(a' - b')) (by omega) b' (a' - b') rfl j1 (.inl j3) lb' lab]
    have:Nat.gcd b' (a' - b')=Nat.gcd a b:=by
     rw[<- hg,Nat.gcd_sub_self_right (by omega),uF]
    rw[this]
   ·have hc:¬ gQ a' b' > 0:=by unfold gQ;split<;>first | omega | (rw[ai AZ];omega)
    rw[ai hc,fG (iB b') (iB a'),CZ (ic (by omega)) (ic (by omega)) (jL _) (jL _),BK,fO,fO,ai (by omega),aR,aa];simp only[aY];rw[show ([(bK (b' - a')).av,AV.int .i64 0]:List AV)[0]?=some (bK (b' - a')).av from rfl,show ([(bK (b' - a')).av,AV.int .i64 0]:List AV)[1]?=some (.int .i64 0) from rfl,aa,aa];have lab:(aC (b' - a')).length < 2 ^ 39:=jq (lh (Nat.sub_le _ _)) lb';rw[ih (a'+(b' - a')) (by omega) a' (b' - a') rfl k1 (.inl k3) la' lab]
    have:Nat.gcd a' (b' - a')=Nat.gcd a b:=by
     rw[<- hg,Nat.gcd_sub_self_right (by omega)]
    rw[this]
theorem qgA {x y:NV} (hx:NOk x) (hy:NOk y) (lx:(aC x.v).length < 2 ^ 38) (ly:(aC y.v).length < 2 ^ 38):AP ae 119 [x.av,y.av]=some (bK (Nat.gcd x.v y.v)).av:=by
 have e1:=ra hx.fr;have e2:=ra hy.fr;rw[show x.fr.v=x.v from rfl] at e1;rw[show y.fr.v=y.v from rfl] at e2;have s1:=Sd (ic (n:=x.v) (by omega));have s2:=Sd (ic (n:=y.v) (by omega));rw[fO] at s1 s2
 have hx1:∀ n,aY (s9 n) 1=some (.bool (decide (n < 18446744073709551616))):=by
  intro n;unfold s9;split<;>(rename_i h;simp[aY,h])
 have hx0:∀ n,∃ k:Nat,aY (s9 n) 0=some (.int .u64 k)/\(n < 18446744073709551616->k=n):=by
  intro n;unfold s9
  split
  ·exact ⟨n,rfl,fun _=>rfl⟩
  ·rename_i h;exact ⟨0,rfl,fun h'=>absurd h' h⟩
 obtain ⟨kx,A4,qlO⟩:=hx0 x.v;obtain ⟨ky,hky,qlP⟩:=hx0 y.v
 have big:∀ {R:OM},R=((aO false (bK x.v).av).bind fun v9=>(ag .other .eql v9 (.int .i64 0)).bind fun v10=>aw v10 (some ((bK y.v).av,[])) (
   (aO false (bK y.v).av).bind fun v11=>(ag .other .eql v11 (.int .i64 0)).bind fun v12=>aw v12 (some ((bK x.v).av,[])) (
   (aD (AP ae) none [] 72 [(.int .u64 1)]).bind fun fK=>zO (bK x.v).av (bK y.v).av fK.1 fK.2 (B7 (aE ae.P f119.results.toList)))))->R=some ((bK (Nat.gcd x.v y.v)).av,[]):=by
  intro R hR;rw[hR,pf,aa,nL,aa,aA]
  by_cases h0:x.v=0
  ·rw[an (mX.2 h0),h0,Nat.gcd_zero_left]
  ·rw[ai (fun e=>h0 (mX.1 e)),pf,aa,nL,aa,aA]
   by_cases h1:y.v=0
   ·rw[an (mX.2 h1),h1,Nat.gcd_zero_right]
   ·have h70:=CX (n:=1) (by omega);have l1:(aC 1).length < 2 ^ 39:=jq (mF (k:=1) (by omega)) (by omega);obtain ⟨a',b',t',k1,k2,k3,k4,k5,k6,k7,k8,k9⟩:=qgU (B7 (aE ae.P f119.results.toList)) [] x.v x.v y.v 1 rfl (by omega) (by omega) (by omega) (by rw[kV];omega) (by omega) (by omega) l1;have la':(aC a').length < 2 ^ 39:=jq (lh k4) (by omega);have lb':(aC b').length < 2 ^ 39:=jq (lh k5) (by omega);have lg:(aC (Nat.gcd a' b')).length < 2 ^ 39:=jq (lh (Nat.gcd_le_left _ k1)) la';rw[ai (fun e=>h1 (mX.1 e)),cJ (gh _ _),show AV.int .u64 1=.int .u64 ((1:Nat):Int) from rfl,h70,aR,aa,k9,qaL,qgV _ _ _ (a'+b') a' b' rfl k1 k6 la' lb',qaO,fG (iB _) (iB _),Ar (ic (by omega)) (ic (by omega)),fO,fO,k7,kV]
    rfl
 refine cO _ _ (iB _) (pO _) (m:=[]) ?_;rw[qfL,cJ (cF x),e1,aR,aa,cJ (cF y),e2,aR,aa,cJ (iB _),s1,aR,aa,A4,aa,hx1,aa,cJ (iB _),s2,aR,aa,hky,aa,hx1,aa,aA]
 by_cases c1:x.v < 18446744073709551616
 ·rw[an c1,aA]
  by_cases c2:y.v < 18446744073709551616
  ·have tJ:Nat.gcd x.v y.v < 18446744073709551616:=by
    by_cases h0:x.v=0
    ·rw[h0,Nat.gcd_zero_left];exact c2
    ·exact jq (Nat.gcd_le_left _ (oP h0)) c1
   rw[an c2,qlO c1,qlP c2,qgY _ _ y.v x.v y.v rfl c1 c2,qa0,cJ (gh _ _),CX tJ]
   rfl
  ·rw[ai c2];exact big rfl
 ·rw[ai c1];exact big rfl
end Go.Ab
namespace Go.Ab
def fP (neg:Bool) (n:Nat):Int:=if neg then -(n:Int) else n
def cT (neg:Bool) (n d:Nat):Rat:=mkRat (fP neg n) d
theorem BG (neg:Bool) (n:Nat):(fP neg n).natAbs=n:=by cases neg<;>simp[fP]
theorem ze (neg:Bool) (n:Nat):cT neg n 0=0:=by simp[cT,Rat.mkRat_zero]
theorem vD (neg:Bool) (d:Nat):cT neg 0 d=0:=by
 have:fP neg 0=0:=by cases neg<;>rfl
 rw[cT,this,Rat.zero_mkRat]
theorem OS {neg:Bool} {n d:Nat} (hd:d≠0):(cT neg n d).num.natAbs=n / Nat.gcd n d:=by
 rw[cT,Rat.num_mkRat,ai hd,BG,uF]
 cases neg with
 | false=>rfl
 | true=>
  have DG:((Nat.gcd n d:Nat):Int)∣(n:Int):=Int.natCast_dvd_natCast.2 (Nat.gcd_dvd_left _ _);show (-(n:Int) / ((Nat.gcd n d:Nat):Int)).natAbs=_;rw[Int.neg_ediv_of_dvd DG,Int.natAbs_neg]
  rfl
theorem OT {neg:Bool} {n d:Nat} (hd:d≠0):(cT neg n d).den=d / Nat.gcd n d:=by
 rw[cT,Rat.den_mkRat,ai hd,BG,uF]
theorem Yg {neg:Bool} {n d:Nat} (hd:d≠0):decide ((cT neg n d).num < 0)=(neg && decide (n / Nat.gcd n d > 0)):=by
 have DG:((Nat.gcd n d:Nat):Int)∣(n:Int):=Int.natCast_dvd_natCast.2 (Nat.gcd_dvd_left _ _)
 have e:(cT neg n d).num=fP neg (n / Nat.gcd n d):=by
  rw[cT,Rat.num_mkRat,ai hd,BG,uF]
  cases neg with
  | false=>rfl
  | true=>
   show -(n:Int) / ((Nat.gcd n d:Nat):Int)=_;rw[Int.neg_ediv_of_dvd DG]
   rfl
 rw[e]
 cases neg with
 | false=>
  rw[lY];exact dd (Int.not_lt.2 (rQ _))
 | true=>
  simp only[fP,bw,iL];exact jS.2 (by omega)
theorem Yf {neg:Bool} {n d:Nat} (hd:d≠0):cT neg n d=0↔n=0:=by
 rw[cT,Rat.mkRat_eq_zero hd];cases neg<;>simp[fP]
theorem zf (s t:Bool) (n d k e:Nat):cT s n d * cT t k e=cT (s != t) (n * k) (d * e):=by
 rw[cT,cT,cT,Rat.mkRat_mul_mkRat];congr 1;cases s<;>cases t<;>simp[fP,qR,Int.neg_mul,Int.mul_neg]
theorem IU {s t:Bool} {n d k e:Nat} (hd:d≠0) (he:e≠0):cT s n d+cT t k e=mkRat (fP s (n * e)+fP t (k * d)) (d * e):=by
 rw[cT,cT,Rat.mkRat_add_mkRat _ _ hd he];congr 1;cases s<;>cases t<;>simp[fP,qR,Int.neg_mul]
theorem YP {s:Bool} {x y:Nat}:fP s x+fP s y=fP s (x+y):=by cases s<;>simp[fP]<;>omega
theorem YM {s t:Bool} {x y:Nat} (h:s≠t) (hxy:¬ x < y):fP s x+fP t y=fP s (x - y):=by
 cases s<;>cases t<;>simp[fP] at h ⊢<;>omega
theorem YN {s t:Bool} {x y:Nat} (h:s≠t) (hxy:x < y):fP s x+fP t y=fP t (y - x):=by
 cases s<;>cases t<;>simp[fP] at h ⊢<;>omega
structure RV where
 neg:Bool
 num:NV
 den:NV
def RV.av (r:RV):AV:=.agg [.bool r.neg,r.num.av,r.den.av]
def RV.fr (r:RV):RV:=⟨r.neg,r.num.fr,r.den.fr⟩
def RV.q (r:RV):Rat:=cT r.neg r.num.v r.den.v
structure ROk (k:Nat) (r:RV):Prop where
 num:NOk r.num
 den:NOk r.den
 ln:r.num.ds.length<=k
 ld:r.den.ds.length<=k
theorem ROk.fr {k:Nat} {r:RV} (h:ROk k r):ROk k r.fr:=⟨h.num.fr,h.den.fr,h.ln,h.ld⟩
theorem ROk.mono {k k':Nat} {r:RV} (h:ROk k r) (hk:k<=k'):ROk k' r:=⟨h.num,h.den,dY h.ln hk,dY h.ld hk⟩
theorem RV.fr_q (r:RV):r.fr.q=r.q:=rfl
theorem gU (r:RV):Fz r.av r.fr.av:=by
 intro m;have e:bG m j6 r.av=(eY (bG m 8) [.bool r.neg,r.num.av,r.den.av]).map fun r=>(.agg r.1,r.2):=rfl;rw[e];simp[eY,Mv r.neg m 7,qx r.num m 7,qx r.den m 7,RV.fr,RV.av]
theorem kO (r:RV):jd r.av=true:=by simp[RV.av,jd,mh,NV.av]
structure Can (r:RV) (q:Rat):Prop where
 neg:r.neg=decide (q.num < 0)
 num:r.num.ds=aC q.num.natAbs
 den:r.den.ds=aC q.den
 numz:r.num.z=true->r.num.ds=[]
 denz:r.den.z=true->r.den.ds=[]
theorem Can.q {r:RV} {q:Rat} (h:Can r q):r.q=q:=by
 rw[RV.q,NV.v,NV.v,h.num,h.den,gz,gz,h.neg,cT]
 have e:fP (decide (q.num < 0)) q.num.natAbs=q.num:=by
  by_cases hq:q.num < 0
  ·simp[fP,hq];omega
  ·simp[fP,hq];omega
 rw[e];exact Rat.mkRat_self q
def Bd (k:Nat) (q:Rat):Prop:=(aC q.num.natAbs).length<=k/\(aC q.den).length<=k
theorem Can.ok {r:RV} {q:Rat} {k:Nat} (h:Can r q) (hb:Bd k q) (hk:k < 2 ^ 40):ROk k r:=by
 refine ⟨⟨by rw[h.num];exact gu _,by rw[h.num];exact jq hb.1 hk,h.numz⟩,⟨by rw[h.den];exact gu _,by rw[h.den];exact jq hb.2 hk,h.denz⟩,by rw[h.num];exact hb.1,by rw[h.den];exact hb.2⟩
theorem Can.den0 {r:RV} {q:Rat} (h:Can r q):r.den.v≠0:=by
 rw[NV.v,h.den,gz];exact q.den_nz
theorem oK {a b i j:Nat} (ha:(aC a).length<=i) (hb:(aC b).length<=j):(aC (a * b)).length<=i+j:=by
 refine mF ?_;have h1:=mS (gu a);have h2:=mS (gu b);rw[gz] at h1 h2;have h3:4294967296 ^ (aC a).length<=4294967296 ^ i:=py (by omega) ha;have h4:4294967296 ^ (aC b).length<=4294967296 ^ j:=py (by omega) hb;rw[qY];exact Nat.mul_lt_mul'' (by omega) (by omega)
theorem N5 {a b i:Nat} (ha:(aC a).length<=i) (hb:(aC b).length<=i):(aC (a+b)).length<=i+1:=by
 refine mF ?_;have h1:=mS (gu a);have h2:=mS (gu b);rw[gz] at h1 h2;have h3:4294967296 ^ (aC a).length<=4294967296 ^ i:=py (by omega) ha;have h4:4294967296 ^ (aC b).length<=4294967296 ^ i:=py (by omega) hb;rw[jR];omega
theorem It:(aC 1).length<=1:=mF (by omega)
theorem zF {neg:Bool} {n d k:Nat} (hn:(aC n).length<=k) (hd:(aC d).length<=k) (hk:1<=k):Bd k (cT neg n d):=by
 by_cases h0:d=0
 ·subst h0;rw[ze]
  refine ⟨?_,?_⟩
  ·show (aC 0).length<=k;rw[lF];exact kW _
  ·show (aC 1).length<=k;exact dY It hk
 ·refine ⟨?_,?_⟩
  ·rw[OS h0];exact dY (lh (xM _ _)) hn
  ·rw[OT h0];exact dY (lh (xM _ _)) hd
theorem Bd.mono {k k':Nat} {q:Rat} (h:Bd k q) (hk:k<=k'):Bd k' q:=⟨dY h.1 hk,dY h.2 hk⟩
theorem IX (q:Rat):cT (decide (q.num < 0)) q.num.natAbs q.den=q:=by
 have e:fP (decide (q.num < 0)) q.num.natAbs=q.num:=by
  by_cases hq:q.num < 0
  ·simp[fP,hq];omega
  ·simp[fP,hq];omega
 rw[cT,e];exact Rat.mkRat_self q
theorem Z9 {p q:Rat} {k l:Nat} (hp:Bd k p) (hq:Bd l q) (hk:1<=k):Bd (k+l) (p * q):=by
 rw[<- IX p,<- IX q,zf];exact zF (oK hp.1 hq.1) (oK hp.2 hq.2) (by omega)
theorem qnm (x:Int):∃ s n,x=fP s n/\n=x.natAbs:=⟨decide (x < 0),x.natAbs,by
 by_cases hq:x < 0
 ·simp[fP,hq];omega
 ·simp[fP,hq];omega,rfl⟩
theorem PR {p q:Rat} {k l:Nat} (hp:Bd k p) (hq:Bd l q) (hk:1<=k):Bd (k+l+1) (p+q):=by
 have h1:=oK hp.1 hq.2;have h2:=oK hq.1 hp.2;rw[<- IX p,<- IX q,IU p.den_nz q.den_nz];obtain ⟨s,n,e1,e2⟩:=qnm (fP (decide (p.num < 0)) (p.num.natAbs * q.den)+fP (decide (q.num < 0)) (q.num.natAbs * p.den))
 have hle:n<=p.num.natAbs * q.den+q.num.natAbs * p.den:=by
  rw[e2];refine dY (Int.natAbs_add_le _ _) ?_;rw[BG,BG];exact aQ _
 have im:(aC (q.num.natAbs * p.den)).length<=k+l:=by omega
 have h3:=N5 h1 im;rw[e1,<- cT];exact zF (dY (lh hle) h3) (dY (oK hp.2 hq.2) (by omega)) (by omega)
theorem JJ {k:Nat} (hk:1<=k):Bd k 0:=⟨by show (aC 0).length<=k;rw[lF];exact kW _,dY (by show (aC 1).length<=1;exact It) hk⟩
theorem JI {k:Nat} (hk:1<=k):Bd k 1:=⟨dY (by show (aC 1).length<=1;exact It) hk,dY (by show (aC 1).length<=1;exact It) hk⟩
theorem ROk.bd {k:Nat} {r:RV} (h:ROk k r) (hk:1<=k):Bd k r.q:=zF (dY h.num.v_len h.ln) (dY h.den.v_len h.ld) hk
def nt (r:RV):Bool:=sj r.num.ds && (sj r.den.ds && (decide (r.den.v≠0) && (!(decide (r.num.v=0) && r.neg) && decide (Nat.gcd r.num.v r.den.v=1))))
theorem Tz {r:RV} {q:Rat} (h:Can r q):nt r=true:=by
 have hd:=h.den0;have e1:r.num.v=q.num.natAbs:=by rw[NV.v,h.num,gz]
 have e2:r.den.v=q.den:=by rw[NV.v,h.den,gz]
 simp only[nt,sj,b7,oq,xy,Bool.and_eq_false_iff,decide_eq_false_iff_not]
 refine ⟨?_,?_,hd,?_,?_⟩
 ·rw[h.num,gz]
 ·rw[h.den,gz]
 ·by_cases h0:r.num.v=0
  ·right;rw[h.neg];have:q.num=0:=by omega
   rw[this];rfl
  ·exact .inl h0
 ·rw[e1,e2];exact q.reduced
end Go.Ab
namespace Go.Ab
def cR (r:RV):Option Ent:=some (.obj true [.bool r.neg,r.num.av,r.den.av])
def iv:NV:=⟨true,.full,[]⟩
def zR:RV:=⟨false,iv,iv⟩
theorem dj (m:af) (r:RV):dI none (some 3) m r.av=some (.ptr m.length 0,m++[cR r]):=rfl
theorem ef (m:af):az none m (.obj true [.bool false,iv.av,iv.av])=(m.length,m++[cR zR]):=rfl
theorem cY (m:af):az none m .resv=(m.length,m++[some .resv]):=rfl
theorem fc (m:af) (n:Nat):az (some n) m (.obj true [.bool false,iv.av,iv.av])=(n,m.set n (cR zR)):=rfl
theorem eZ (m:af) (n:Nat):az (some n) m .resv=(n,m.set n (some .resv)):=rfl
theorem de (n:Nat):aT 0 (.ptr n 0)=some (.ptr n 0):=rfl
theorem df (n:Nat):aT 1 (.ptr n 0)=some (.ptr n 1):=rfl
theorem dc (n:Nat):aT 2 (.ptr n 0)=some (.ptr n 2):=rfl
theorem ff (m:af):cU m 1=m++[some .resv]:=rfl
theorem fg (m:af):cU m 2=m++[some .resv,some .resv]:=rfl
theorem eG {M:af} {r:RV}:aj none (cR r::M) (.ptr 0 0)=some (.bool r.neg):=rfl
theorem eH {M:af} {r:RV}:aj none (cR r::M) (.ptr 0 1)=some (r.num.av):=rfl
theorem eF {M:af} {r:RV}:aj none (cR r::M) (.ptr 0 2)=some (r.den.av):=rfl
theorem dK {M:af} {r:RV}:aj (some 3) (cR r::M) (.ptr 0 0)=some r.av:=rfl
theorem dS {M:af} {r r':RV}:aL (some 3) (cR r::M) (.ptr 0 0) r'.av=some (cR r'::M):=rfl
theorem fh {M:af} {r:RV} {b:Bool}:aL none (cR r::M) (.ptr 0 0) (.bool b)=some (cR ⟨b,r.num,r.den⟩::M):=rfl
theorem eJ {c0:Option Ent} {M:af} {r:RV}:aj none (c0::cR r::M) (.ptr 1 0)=some (.bool r.neg):=rfl
theorem eK {c0:Option Ent} {M:af} {r:RV}:aj none (c0::cR r::M) (.ptr 1 1)=some (r.num.av):=rfl
theorem eI {c0:Option Ent} {M:af} {r:RV}:aj none (c0::cR r::M) (.ptr 1 2)=some (r.den.av):=rfl
theorem dk {c0:Option Ent} {M:af} {r:RV}:aj (some 3) (c0::cR r::M) (.ptr 1 0)=some r.av:=rfl
theorem dw {c0:Option Ent} {M:af} {r r':RV}:aL (some 3) (c0::cR r::M) (.ptr 1 0) r'.av=some (c0::cR r'::M):=rfl
theorem fk {c0:Option Ent} {M:af} {r:RV} {b:Bool}:aL none (c0::cR r::M) (.ptr 1 0) (.bool b)=some (c0::cR ⟨b,r.num,r.den⟩::M):=rfl
theorem eM {c0 c1:Option Ent} {M:af} {r:RV}:aj none (c0::c1::cR r::M) (.ptr 2 0)=some (.bool r.neg):=rfl
theorem eN {c0 c1:Option Ent} {M:af} {r:RV}:aj none (c0::c1::cR r::M) (.ptr 2 1)=some (r.num.av):=rfl
theorem eL {c0 c1:Option Ent} {M:af} {r:RV}:aj none (c0::c1::cR r::M) (.ptr 2 2)=some (r.den.av):=rfl
theorem dV {c0 c1:Option Ent} {M:af} {r:RV}:aj (some 3) (c0::c1::cR r::M) (.ptr 2 0)=some r.av:=rfl
theorem dX {c0 c1:Option Ent} {M:af} {r r':RV}:aL (some 3) (c0::c1::cR r::M) (.ptr 2 0) r'.av=some (c0::c1::cR r'::M):=rfl
theorem fq {c0 c1:Option Ent} {M:af} {r:RV} {b:Bool}:aL none (c0::c1::cR r::M) (.ptr 2 0) (.bool b)=some (c0::c1::cR ⟨b,r.num,r.den⟩::M):=rfl
theorem eQ {c0 c1 c2:Option Ent} {M:af} {r:RV}:aj none (c0::c1::c2::cR r::M) (.ptr 3 0)=some (.bool r.neg):=rfl
theorem eR {c0 c1 c2:Option Ent} {M:af} {r:RV}:aj none (c0::c1::c2::cR r::M) (.ptr 3 1)=some (r.num.av):=rfl
theorem eP {c0 c1 c2:Option Ent} {M:af} {r:RV}:aj none (c0::c1::c2::cR r::M) (.ptr 3 2)=some (r.den.av):=rfl
theorem eO {c0 c1 c2:Option Ent} {M:af} {r:RV}:aj (some 3) (c0::c1::c2::cR r::M) (.ptr 3 0)=some r.av:=rfl
theorem ft {c0 c1 c2:Option Ent} {M:af} {r r':RV}:aL (some 3) (c0::c1::c2::cR r::M) (.ptr 3 0) r'.av=some (c0::c1::c2::cR r'::M):=rfl
theorem fw {c0 c1 c2:Option Ent} {M:af} {r:RV} {b:Bool}:aL none (c0::c1::c2::cR r::M) (.ptr 3 0) (.bool b)=some (c0::c1::c2::cR ⟨b,r.num,r.den⟩::M):=rfl
theorem eW {c0 c1 c2 c3:Option Ent} {M:af} {r:RV}:aj none (c0::c1::c2::c3::cR r::M) (.ptr 4 0)=some (.bool r.neg):=rfl
theorem eX {c0 c1 c2 c3:Option Ent} {M:af} {r:RV}:aj none (c0::c1::c2::c3::cR r::M) (.ptr 4 1)=some (r.num.av):=rfl
theorem eU {c0 c1 c2 c3:Option Ent} {M:af} {r:RV}:aj none (c0::c1::c2::c3::cR r::M) (.ptr 4 2)=some (r.den.av):=rfl
theorem eT {c0 c1 c2 c3:Option Ent} {M:af} {r:RV}:aj (some 3) (c0::c1::c2::c3::cR r::M) (.ptr 4 0)=some r.av:=rfl
theorem fA {c0 c1 c2 c3:Option Ent} {M:af} {r r':RV}:aL (some 3) (c0::c1::c2::c3::cR r::M) (.ptr 4 0) r'.av=some (c0::c1::c2::c3::cR r'::M):=rfl
theorem fB {c0 c1 c2 c3:Option Ent} {M:af} {r:RV} {b:Bool}:aL none (c0::c1::c2::c3::cR r::M) (.ptr 4 0) (.bool b)=some (c0::c1::c2::c3::cR ⟨b,r.num,r.den⟩::M):=rfl
theorem dM (a:AV) (l:List AV):aY (.tup (a::l)) 0=some a:=rfl
theorem dN (a b:AV) (l:List AV):aY (.tup (a::b::l)) 1=some b:=rfl
theorem ee (a b c:AV) (l:List AV):aY (.tup (a::b::c::l)) 2=some c:=rfl
theorem eu:gm (.agg [.bool false,iv.av,iv.av]) []=some zR.av:=rfl
theorem eD (x:NV):gm (.agg [.bool false,iv.av,iv.av]) [(2,none,x.av)]=some (RV.av ⟨false,iv,x⟩):=rfl
theorem eC (x y:NV):gm (.agg [.bool false,iv.av,iv.av]) [(1,none,x.av),(2,none,y.av)]=some (RV.av ⟨false,x,y⟩):=rfl
theorem ez (b:Bool) (x y:NV):gm (.agg [.bool false,iv.av,iv.av]) [(0,none,.bool b),(1,none,x.av),(2,none,y.av)]=some (RV.av ⟨b,x,y⟩):=rfl
theorem eh:au=iv.av:=rfl
theorem dE (b:Bool):jN .not (.bool b)=some (.bool (!b)):=rfl
theorem dU (a b:Bool):ag .bl .neq (.bool a) (.bool b)=some (.bool (a != b)):=rfl
theorem eo (a b:Bool):ag .bl .eql (.bool a) (.bool b)=some (.bool (a == b)):=rfl
section
variable {cp:Nat->List AV->Option AV} {d:Option Nat} {m:af} {g:Nat}
theorem fe (x:NV):aD cp d m g [x.av]=(cp g [x.fr.av]).map fun v=>(v,m):=cJ (cF x)
theorem dF (k:IntKind) (n:Int):aD cp d m g [.int k n]=(cp g [.int k n]).map fun v=>(v,m):=cJ (gh k n)
theorem dR (x y:NV):aD cp d m g [x.av,y.av]=(cp g [x.fr.av,y.fr.av]).map fun v=>(v,m):=fG (cF x) (cF y)
theorem dW (b:Bool) (x y:NV):aD cp d m g [.bool b,x.av,y.av]=(cp g [.bool b,x.fr.av,y.fr.av]).map fun v=>(v,m):=IN (qv b) (cF x) (cF y)
theorem dL (r:RV):aD cp d m g [r.av]=(cp g [r.fr.av]).map fun v=>(v,m):=cJ (gU r)
theorem dr (r s:RV):aD cp d m g [r.av,s.av]=(cp g [r.fr.av,s.fr.av]).map fun v=>(v,m):=fG (gU r) (gU s)
theorem dp:aD cp d m g []=(cp g []).map fun v=>(v,m):=zb
end
theorem Us (m:af) (r:RV):bG m 8 r.av=some (r.fr.av,[]):=by
 have e:bG m 8 r.av=(eY (bG m 7) [.bool r.neg,r.num.av,r.den.av]).map fun r=>(.agg r.1,r.2):=rfl;rw[e];simp[eY,Mv r.neg m 6,qx r.num m 6,qx r.den m 6,RV.fr,RV.av]
theorem AG (r:RV) {b b':AV} (hb:∀ m k,bG m (k+1) b=some (b',[])):Fz (.tup [r.av,b]) (.tup [r.fr.av,b']):=by
 intro m;show (eY (bG m 8) [r.av,b]).map _=_;simp[eY,Us,hb m 7]
end Go.Ab
namespace Go.Ab
structure LV where
 sh:Sh
 z:Bool
 o:Own
 es:List RV
def LV.av (l:LV):AV:=.lst l.sh l.z l.o (l.es.map RV.av)
def LV.fr (l:LV):LV:=⟨l.sh,l.z,l.o.fr,l.es⟩
structure LOk (k:Nat) (l:LV):Prop where
 sh:l.sh=some 3\/l.es=[]
 z:l.z=true->l.es=[]
 fr:∀ r∈l.es,r.fr=r
 ok:∀ r∈l.es,ROk k r
structure MV where
 rows:Int
 cols:Int
 lv:LV
theorem LOk.fr' {k:Nat} {l:LV} (h:LOk k l):LOk k l.fr:=⟨h.sh,h.z,h.fr,h.ok⟩
theorem Mt (x:LV):Fz x.av x.fr.av:=fun m=>qw x.sh x.z x.o (x.es.map RV.av) m 8
theorem Is (l:LV):aO false l.av=some (.int .i64 l.es.length):=by simp[LV.av,aO]
theorem Il {l:LV} {k k':Nat} {kk:IntKind} (h:LOk k' l) (hk:k < l.es.length):aH (some 3) l.av (.int kk k)=some (.vptr (l.es[k].av).cells):=by
 have hs:l.sh=some 3:=h.sh.resolve_right (fun e=>by rw[e] at hk;simp at hk);simp[LV.av,aH,hs,hk]
theorem Iv (m:af) (r:RV):aj (some 3) m (.vptr r.av.cells)=some r.av:=rfl
theorem qj5 {r:RV} (h:r.fr=r):dO (some 3) [r.av]=some (.lst (some 3) false .full [r.av]):=by
 obtain ⟨n,⟨z1,o1,d1⟩,⟨z2,o2,d2⟩⟩:=r;simp only[RV.fr,NV.fr,RV.mk.injEq,NV.mk.injEq,true_and,and_true] at h;cases o1<;>cases o2<;>simp[Own.fr] at h<;>rfl
def Xp:LV:=⟨none,true,.full,[]⟩
theorem pM {m:af} {n:Nat} {bx:Bool} {cs:List AV} (h:m[n]?=some (some (.obj bx cs))):m.obj? n=some (bx,cs):=by simp[af.obj?,af.get,h]
theorem BE {m:af} {n:Nat} {x:RV} (h:m[n]?=some (cR x)):aj (some 3) m (.ptr n 0)=some x.av:=by
 simp[aj,pM h,ku,RV.av]
theorem Yu {m:af} {n:Nat} {x:RV} (h:m[n]?=some (cR x)):aj none m (.ptr n 1)=some x.num.av:=by simp[aj,pM h,ku]
theorem Yv {m:af} {n:Nat} {x:RV} (h:m[n]?=some (cR x)):aj none m (.ptr n 2)=some x.den.av:=by simp[aj,pM h,ku]
theorem Yy {m:af} {n:Nat} {x y:RV} (h:m[n]?=some (cR x)):aL (some 3) m (.ptr n 0) y.av=some (m.set n (cR y)):=by
 simp only[aL,pM h,aa]
 rfl
def Kp (m m':af):Prop:=m.length<=m'.length/\∀ (n:Nat) (bx:Bool) (cs:List AV),m[n]?=some (some (Ent.obj bx cs))->m'[n]?=some (some (Ent.obj bx cs))
theorem Kp.app (m e:af):Kp m (m++e):=⟨by simp,fun n bx cs h=>by
 have hn:n < m.length:=by
  apply qj;intro hc;rw[n5 (by omega)] at h;cases h
 rw[nB hn];exact h⟩
def Lo (m:af) (l:LV):Prop:=(l=Xp)\/(l.sh=some 3/\l.z=false/\l.es≠[]/\∃ nm,l.o=.tok nm 43/\m[nm]?=some (some (.tok l.es.length 3)))
theorem Lo.app {m:af} {l:LV} (h:Lo m l) (e:af):Lo (m++e) l:=by
 rcases h with h | ⟨h1,h2,h3,nm,h4,h5⟩
 ·exact .inl h
 ·refine .inr ⟨h1,h2,h3,nm,h4,?_⟩
  have hn:nm < m.length:=by
   apply qj;intro hc;rw[n5 (by omega)] at h5;cases h5
  rw[nB hn];exact h5
theorem My {m:af} {e:Option Ent}:(m++[e])[m.length]?=some e:=by simp
end Go.Ab
namespace Go.Ab
noncomputable section
open Go.Proofs.Tryz
theorem qfG (a0 a1:AV) (m:af):AC ae 113 [a0,a1] m=(dI none (some 3) m a0).bind fun r1=>(dI none (some 3) r1.2 a1).bind fun r2=>(aj (some 3) r2.2 r1.1).bind fun v3=>(aj (some 3) r2.2 r2.1).bind fun v4=>(aD (AP ae) none r2.2 153 [v3,v4]).bind fun r5=>(ag .other .eql r5.1 (.int .i64 0)).bind fun v6=>some (v6,r5.2):=
(bm ae 113 [a0,a1] m (fn:=f113) (c:=aB f113) qh1 rfl).trans (by kernel_rfl)
theorem CU (a0 a1:AV) (m:af):AC ae 71 [a0,a1] m=(dI none (some 3) m a0).bind fun r1=>(dI none (some 3) r1.2 a1).bind fun r2=>(aj (some 3) (az none r2.2 (.obj true [(.bool false),au,au])).2 r1.1).bind fun v3=>(aD (AP ae) none (az none r2.2 (.obj true [(.bool false),au,au])).2 129 [v3]).bind fun r4=>(ag .other .eql r4.1 (.int .i64 0)).bind fun v5=>aw v5 ((aT 0 r2.1).bind fun v6=>(aj none r4.2 v6).bind fun v7=>(aT 1 r2.1).bind fun v8=>(aj none r4.2 v8).bind fun v9=>(aT 2 r2.1).bind fun v10=>(aj none r4.2 v10).bind fun v11=>(aD (AP ae) none r4.2 126 [v7,v9,v11]).bind fun kf=>(aL (some 3) kf.2 (.ptr (az none r2.2 .resv).1 0) kf.1).bind fun m13=>(aj (some 3) m13 (.ptr (az none r2.2 .resv).1 0)).bind fun bq=>some (bq,m13)) ((aj (some 3) r4.2 r2.1).bind fun br=>(aD (AP ae) none r4.2 129 [br]).bind fun hZ=>(ag .other .eql hZ.1 (.int .i64 0)).bind fun bH=>aw bH ((aT 0 r1.1).bind fun fI=>(aj none hZ.2 fI).bind fun dG=>(aT 1 r1.1).bind fun v20=>(aj none hZ.2 v20).bind fun v21=>(aT 2 r1.1).bind fun v22=>(aj none hZ.2 v22).bind fun v23=>(aD (AP ae) none hZ.2 126 [dG,v21,v23]).bind fun mo=>(aL (some 3) mo.2 (.ptr (az none r2.2 .resv).1 0) mo.1).bind fun m25=>(aj (some 3) m25 (.ptr (az none r2.2 .resv).1 0)).bind fun v26=>some (v26,m25)) ((aT 1 r1.1).bind fun kh=>(aj none hZ.2 kh).bind fun v28=>(aT 2 r2.1).bind fun kR=>(aj none hZ.2 kR).bind fun v30=>(aD (AP ae) (some hZ.2.length) hZ.2 127 [v28,v30]).bind fun sX=>(aT 1 r2.1).bind fun mR=>(aj none sX.2 mR).bind fun pQ=>(aT 2 r1.1).bind fun qO=>(aj none sX.2 qO).bind fun nw=>(aD (AP ae) (some hZ.2.length) sX.2 127 [pQ,nw]).bind fun zh=>(aT 2 r1.1).bind fun v37=>(aj none zh.2 v37).bind fun te=>(aT 2 r2.1).bind fun uj=>(aj none zh.2 uj).bind fun v40=>(aD (AP ae) (some hZ.2.length) zh.2 127 [te,v40]).bind fun uf=>(aT 0 r1.1).bind fun Pv=>(aj none uf.2 Pv).bind fun EO=>(aT 0 r2.1).bind fun Pw=>(aj none uf.2 Pw).bind fun EP=>(ag .bl .eql EO EP).bind fun v46=>aw v46 ((aT 0 r1.1).bind fun Px=>(aj none uf.2 Px).bind fun Zx=>(aD (AP ae) (some uf.2.length) uf.2 130 [sX.1,zh.1]).bind fun w6=>(aD (AP ae) (some uf.2.length) w6.2 126 [Zx,w6.1,uf.1]).bind fun Yj=>(aL (some 3) Yj.2 (.ptr (az none r2.2 .resv).1 0) Yj.1).bind fun m51=>(aj (some 3) m51 (.ptr (az none r2.2 .resv).1 0)).bind fun v52=>some (v52,m51)) ((aD (AP ae) none uf.2 131 [sX.1,zh.1]).bind fun zj=>(ag .other .lss zj.1 (.int .i64 0)).bind fun v54=>aw v54 ((aj (some 3) zj.2 r2.1).bind fun Py=>(aL (some 3) zj.2 r1.1 Py).bind fun m56=>(aD (AP ae) none m56 132 [zh.1,sX.1]).bind fun I1=>(aY I1.1 0).bind fun Zy=>(aY I1.1 1).bind fun v59=>(aT 0 r1.1).bind fun Pz=>(aj none I1.2 Pz).bind fun v61=>(aD (AP ae) none I1.2 126 [v61,Zy,uf.1]).bind fun Yk=>(aL (some 3) Yk.2 (.ptr (az none r2.2 .resv).1 0) Yk.1).bind fun m63=>(aj (some 3) m63 (.ptr (az none r2.2 .resv).1 0)).bind fun v64=>some (v64,m63)) ((aD (AP ae) none zj.2 132 [sX.1,zh.1]).bind fun I3=>(aY I3.1 0).bind fun v66=>(aY I3.1 1).bind fun v67=>(aT 0 r1.1).bind fun v68=>(aj none I3.2 v68).bind fun v69=>(aD (AP ae) none I3.2 126 [v69,v66,uf.1]).bind fun Yl=>(aL (some 3) Yl.2 (.ptr (az none r2.2 .resv).1 0) Yl.1).bind fun m71=>(aj (some 3) m71 (.ptr (az none r2.2 .resv).1 0)).bind fun v72=>some (v72,m71))))):=
(bm ae 71 [a0,a1] m (fn:=f71) (c:=aB f71) qju rfl).trans (by kernel_rfl)
theorem qfH (m:af):AC ae 114 [] m=(aD (AP ae) none (az none m (.obj true [(.bool false),au,au])).2 123 [(.int .u64 1)]).bind fun r1=>(gm (.agg [(.bool false),au,au]) [(2,none,r1.1)]).bind fun v2=>(aL (some 3) r1.2 (.ptr (az none m .resv).1 0) v2).bind fun m3=>(aj (some 3) m3 (.ptr (az none m .resv).1 0)).bind fun v4=>some (v4,m3):=
(bm ae 114 [] m (fn:=f114) (c:=aB f114) qh2 rfl).trans (by kernel_rfl)
theorem T64 (m:af):AC ae 64 [] m=(aD (AP ae) none (az none m (.obj true [(.bool false),au,au])).2 123 [(.int .u64 1)]).bind fun r1=>(aD (AP ae) none r1.2 123 [(.int .u64 1)]).bind fun r2=>(gm (.agg [(.bool false),au,au]) [(1,none,r1.1),(2,none,r2.1)]).bind fun v3=>(aL (some 3) r2.2 (.ptr (az none m .resv).1 0) v3).bind fun m4=>(aj (some 3) m4 (.ptr (az none m .resv).1 0)).bind fun v5=>some (v5,m4):=
(bm ae 64 [] m (fn:=f64) (c:=aB f64) qjn rfl).trans (by kernel_rfl)
theorem qf5 (a0:AV) (m:af):AC ae 152 [a0] m=(dI none (some 3) m a0).bind fun r1=>(aT 1 r1.1).bind fun v2=>(aj none r1.2 v2).bind fun v3=>(aD (AP ae) none r1.2 181 [v3]).bind fun r4=>(jN .not r4.1).bind fun v5=>aw v5 (some ((.bool false),r4.2)) ((aT 2 r1.1).bind fun v6=>(aj none r4.2 v6).bind fun v7=>(aD (AP ae) none r4.2 181 [v7]).bind fun r8=>(jN .not r8.1).bind fun v9=>aw v9 (some ((.bool false),r8.2)) ((aT 2 r1.1).bind fun v10=>(aj none r8.2 v10).bind fun v11=>(aO false v11).bind fun v12=>(ag .other .eql v12 (.int .i64 0)).bind fun bu=>aw bu (some ((.bool false),r8.2)) ((aT 1 r1.1).bind fun bq=>(aj none r8.2 bq).bind fun br=>(aO false br).bind fun bT=>(ag .other .eql bT (.int .i64 0)).bind fun bH=>aw bH ((aT 0 r1.1).bind fun fI=>(aj none r8.2 fI).bind fun dG=>aw dG (some ((.bool false),r8.2)) ((aT 1 r1.1).bind fun v20=>(aj none r8.2 v20).bind fun v21=>(aT 2 r1.1).bind fun v22=>(aj none r8.2 v22).bind fun v23=>(aD (AP ae) none r8.2 183 [v21,v23]).bind fun mo=>(aD (AP ae) none mo.2 182 [mo.1]).bind fun mO=>(aY mO.1 0).bind fun v26=>(aY mO.1 1).bind fun kh=>aw kh ((ag .other .eql v26 (.int .u64 1)).bind fun v28=>some (v28,mO.2)) (some ((.bool false),mO.2)))) ((aT 1 r1.1).bind fun kR=>(aj none r8.2 kR).bind fun v30=>(aT 2 r1.1).bind fun v31=>(aj none r8.2 v31).bind fun mR=>(aD (AP ae) none r8.2 183 [v30,mR]).bind fun Ez=>(aD (AP ae) none Ez.2 182 [Ez.1]).bind fun ue=>(aY ue.1 0).bind fun nw=>(aY ue.1 1).bind fun vI=>aw vI ((ag .other .eql nw (.int .u64 1)).bind fun v37=>some (v37,ue.2)) (some ((.bool false),ue.2)))))):=
(bm ae 152 [a0] m (fn:=f152) (c:=aB f152) qix rfl).trans (by kernel_rfl)
theorem qf6 (a0 a1:AV) (m:af):AC ae 153 [a0,a1] m=(dI none (some 3) m a0).bind fun r1=>(dI none (some 3) r1.2 a1).bind fun r2=>(aj (some 3) r2.2 r1.1).bind fun v3=>(aD (AP ae) (some r2.2.length) r2.2 129 [v3]).bind fun r4=>(aj (some 3) r4.2 r2.1).bind fun v5=>(aD (AP ae) (some r2.2.length) r4.2 129 [v5]).bind fun r6=>(ag .other .lss r4.1 r6.1).bind fun v7=>aw v7 (some ((.int .i64 (-1)),r6.2)) ((ag .other .gtr r4.1 r6.1).bind fun v8=>aw v8 (some ((.int .i64 1),r6.2)) ((aT 1 r1.1).bind fun v9=>(aj none r6.2 v9).bind fun v10=>(aT 2 r2.1).bind fun v11=>(aj none r6.2 v11).bind fun v12=>(aD (AP ae) (some r6.2.length) r6.2 127 [v10,v12]).bind fun fK=>(aT 1 r2.1).bind fun bq=>(aj none fK.2 bq).bind fun br=>(aT 2 r1.1).bind fun bT=>(aj none fK.2 bT).bind fun bH=>(aD (AP ae) (some r6.2.length) fK.2 127 [br,bH]).bind fun gD=>(aD (AP ae) (some r6.2.length) gD.2 131 [fK.1,gD.1]).bind fun pa=>(ag .other .mul r4.1 pa.1).bind fun v20=>some (v20,pa.2))):=
(bm ae 153 [a0,a1] m (fn:=f153) (c:=aB f153) qiy rfl).trans (by kernel_rfl)
theorem T69 (a0 a1:AV) (m:af):AC ae 69 [a0,a1] m=(dI none (some 3) m a0).bind fun r1=>(dI none (some 3) r1.2 a1).bind fun r2=>(aT 0 r1.1).bind fun v3=>(aj none (az none r2.2 (.obj true [(.bool false),au,au])).2 v3).bind fun v4=>(aT 0 r2.1).bind fun v5=>(aj none (az none r2.2 (.obj true [(.bool false),au,au])).2 v5).bind fun v6=>(ag .bl .neq v4 v6).bind fun v7=>(aT 1 r1.1).bind fun v8=>(aj none (az none r2.2 (.obj true [(.bool false),au,au])).2 v8).bind fun v9=>(aT 1 r2.1).bind fun v10=>(aj none (az none r2.2 (.obj true [(.bool false),au,au])).2 v10).bind fun v11=>(aD (AP ae) (some (az none r2.2 (.obj true [(.bool false),au,au])).2.length) (az none r2.2 (.obj true [(.bool false),au,au])).2 127 [v9,v11]).bind fun kf=>(aT 2 r1.1).bind fun bu=>(aj none kf.2 bu).bind fun bq=>(aT 2 r2.1).bind fun br=>(aj none kf.2 br).bind fun bT=>(aD (AP ae) (some (az none r2.2 (.obj true [(.bool false),au,au])).2.length) kf.2 127 [bq,bT]).bind fun vE=>(aD (AP ae) (some (az none r2.2 (.obj true [(.bool false),au,au])).2.length) vE.2 126 [v7,kf.1,vE.1]).bind fun gD=>(aL (some 3) gD.2 (.ptr (az none r2.2 .resv).1 0) gD.1).bind fun m19=>(aj (some 3) m19 (.ptr (az none r2.2 .resv).1 0)).bind fun v20=>some (v20,m19):=
(bm ae 69 [a0,a1] m (fn:=f69) (c:=aB f69) qjs rfl).trans (by kernel_rfl)
theorem qfR (a0:AV) (m:af):AC ae 129 [a0] m=(dI none (some 3) m a0).bind fun r1=>(aT 1 r1.1).bind fun v2=>(aj none r1.2 v2).bind fun v3=>(aD (AP ae) none r1.2 131 [v3,au]).bind fun r4=>(ag .other .eql r4.1 (.int .i64 0)).bind fun v5=>aw v5 (some ((.int .i64 0),r4.2)) ((aT 2 r1.1).bind fun v6=>(aj none r4.2 v6).bind fun v7=>(aD (AP ae) none r4.2 131 [v7,au]).bind fun r8=>(ag .other .eql r8.1 (.int .i64 0)).bind fun v9=>aw v9 (some ((.int .i64 0),r8.2)) ((aT 0 r1.1).bind fun v10=>(aj none r8.2 v10).bind fun v11=>aw v11 (some ((.int .i64 (-1)),r8.2)) (some ((.int .i64 1),r8.2)))):=
(bm ae 129 [a0] m (fn:=f129) (c:=aB f129) qie rfl).trans (by kernel_rfl)
theorem RQ (a0 a1 a2:AV) (m:af):AC ae 126 [a0,a1,a2] m=(aD (AP ae) none (az none m (.obj true [(.bool false),au,au])).2 167 [a0,a1,a2]).bind fun r1=>(aY r1.1 0).bind fun v2=>(aY r1.1 1).bind fun v3=>(aL (some 3) (az none r1.2 (.obj true [(.bool false),au,au])).2 (.ptr (az none r1.2 .resv).1 0) v2).bind fun m4=>(ag .other .neq v3 (.int .i64 0)).bind fun v5=>aw v5 ((aD (AP ae) none m4 114 []).bind fun r6=>(aL (some 3) r6.2 (.ptr (az none m .resv).1 0) r6.1).bind fun m7=>(aj (some 3) m7 (.ptr (az none m .resv).1 0)).bind fun v8=>some (v8,m7)) ((aj (some 3) m4 (.ptr (az none r1.2 .resv).1 0)).bind fun v9=>(aL (some 3) m4 (.ptr (az none m .resv).1 0) v9).bind fun m10=>(aj (some 3) m10 (.ptr (az none m .resv).1 0)).bind fun v11=>some (v11,m10)):=
(bm ae 126 [a0,a1,a2] m (fn:=f126) (c:=aB f126) qib rfl).trans (by kernel_rfl)
theorem RW (a0 a1 a2:AV) (m:af):AC ae 167 [a0,a1,a2] m=(aD (AP ae) none (az none m (.obj true [(.bool false),au,au])).2 183 [a1,a2]).bind fun r1=>(aD (AP ae) none r1.2 131 [a2,au]).bind fun r2=>(ag .other .eql r2.1 (.int .i64 0)).bind fun v3=>aw v3 ((gm (.agg [(.bool false),au,au]) []).bind fun v4=>(aL (some 3) r2.2 (.ptr (az none m .resv).1 0) v4).bind fun m5=>(aj (some 3) m5 (.ptr (az none m .resv).1 0)).bind fun v6=>some ((.tup [v6,(.int .i64 31)]),m5)) ((aD (AP ae) none r2.2 187 [a1,r1.1]).bind fun r7=>(aY r7.1 0).bind fun v8=>(aY r7.1 1).bind fun v9=>(aY r7.1 2).bind fun v10=>(aD (AP ae) none r7.2 187 [a2,r1.1]).bind fun je=>(aY je.1 0).bind fun v12=>(aY je.1 1).bind fun bu=>(aY je.1 2).bind fun bq=>aw a0 ((aO false v8).bind fun br=>(ag .other .gtr br (.int .i64 0)).bind fun bT=>(gm (.agg [(.bool false),au,au]) [(0,none,bT),(1,none,v8),(2,none,v12)]).bind fun bH=>(aL (some 3) je.2 (.ptr (az none m .resv).1 0) bH).bind fun m18=>(aj (some 3) m18 (.ptr (az none m .resv).1 0)).bind fun dG=>some ((.tup [dG,(.int .i64 0)]),m18)) ((gm (.agg [(.bool false),au,au]) [(0,none,(.bool false)),(1,none,v8),(2,none,v12)]).bind fun v20=>(aL (some 3) je.2 (.ptr (az none m .resv).1 0) v20).bind fun m21=>(aj (some 3) m21 (.ptr (az none m .resv).1 0)).bind fun v22=>some ((.tup [v22,(.int .i64 0)]),m21))):=
(bm ae 167 [a0,a1,a2] m (fn:=f167) (c:=aB f167) qiH rfl).trans (by kernel_rfl)
theorem qgf (a0:AV) (m:af):AC ae 168 [a0] m=(ag .other .lss a0 (.int .i64 0)).bind fun v1=>aw v1 ((bn .u64 a0).bind fun v2=>(jN .neg v2).bind fun v3=>(aD (AP ae) none m 123 [v3]).bind fun r4=>some (r4.1,r4.2)) ((bn .u64 a0).bind fun v5=>(aD (AP ae) none m 123 [v5]).bind fun r6=>some (r6.1,r6.2)):=
(bm ae 168 [a0] m (fn:=f168) (c:=aB f168) qiI rfl).trans (by kernel_rfl)
theorem qfQ (a0 a1:AV) (m:af):AC ae 128 [a0,a1] m=(ag .other .lss a0 (.int .i64 0)).bind fun v1=>(ag .other .lss a1 (.int .i64 0)).bind fun v2=>(ag .bl .neq v1 v2).bind fun v3=>(aD (AP ae) none (az none m (.obj true [(.bool false),au,au])).2 168 [a0]).bind fun r4=>(aD (AP ae) none r4.2 168 [a1]).bind fun r5=>(aD (AP ae) none r5.2 167 [v3,r4.1,r5.1]).bind fun r6=>(aY r6.1 0).bind fun v7=>(aY r6.1 1).bind fun v8=>(aL (some 3) r6.2 (.ptr (az none m .resv).1 0) v7).bind fun m9=>(aj (some 3) m9 (.ptr (az none m .resv).1 0)).bind fun v10=>some ((.tup [v10,v8]),m9):=
(bm ae 128 [a0,a1] m (fn:=f128) (c:=aB f128) qid rfl).trans (by kernel_rfl)
end
end Go.Ab
namespace Go.Ab
open Go.Proofs.Tryz
theorem Ov:NOk iv:=⟨yd,by simp[iv],by simp[iv]⟩
theorem Ow:iv.v=0:=rfl
def y6:NV:=⟨false,.no,aC 1⟩
theorem R9:AP ae 123 [.int .u64 1]=some y6.av:=Lt (n:=1) (by omega)
def nW:RV:=⟨false,iv,y6⟩
def jJ:RV:=⟨false,y6,y6⟩
theorem wg:Can nW 0:=⟨rfl,lF.symm,rfl,fun _=>rfl,by simp[nW,y6]⟩
theorem LP:Can jJ 1:=⟨rfl,rfl,rfl,by simp[jJ,y6],by simp[jJ,y6]⟩
theorem CW:AP ae 114 []=some nW.av:=by
 refine cO _ _ (gU nW) (kO _) (m:=[cR nW]) ?_;rw[qfH];simp only[aa,aR,dj,ef,cY,fc,eZ,de,df,dc,ff,fg,eG,eH,eF,dK,dS,fh,eJ,eK,eI,dk,dw,fk,eM,eN,eL,dV,dX,fq,eQ,eR,eP,eO,ft,fw,eW,eX,eU,eT,fA,fB,dM,dN,ee,eu,eD,eC,ez,eh,dE,dU,eo,aJ,aP,aI,bV,cn,cm,bp,cZ,ei,fC,fe,dF,dR,dW,dL,dr,dp,R9]
 rfl
theorem Lw:AP ae 64 []=some jJ.av:=by
 refine cO _ _ (gU jJ) (kO _) (m:=[cR jJ]) ?_;rw[T64];simp only[aa,aR,dj,ef,cY,fc,eZ,de,df,dc,ff,fg,eG,eH,eF,dK,dS,fh,eJ,eK,eI,dk,dw,fk,eM,eN,eL,dV,dX,fq,eQ,eR,eP,eO,ft,fw,eW,eX,eU,eT,fA,fB,dM,dN,ee,eu,eD,eC,ez,eh,dE,dU,eo,aJ,aP,aI,bV,cn,cm,bp,cZ,ei,fC,fe,dF,dR,dW,dL,dr,dp,R9]
 rfl
theorem AB (n:Nat):(gQ n 0=0)↔n=0:=by unfold gQ;constructor<;>intro h<;>(repeat' split at *)<;>omega
theorem Sf {x y:NV} (neg:Bool) (hx:NOk x) (hy:NOk y):(y.v=0/\AP ae 167 [.bool neg,x.av,y.av]=some (.tup [zR.av,.int .i64 31])) \/
  (y.v≠0/\∃ r:RV,AP ae 167 [.bool neg,x.av,y.av]=some (.tup [r.av,.int .i64 0])/\Can r (cT neg x.v y.v)/\r.fr=r):=by
 have e1:=Sl hx.fr hy.fr;have e2:=vV hy.fr Ov;have hg:=Ux hx.fr hy.fr;have hgf:(lK x.fr y.fr).fr=lK x.fr y.fr:=qlh _ _;have DL:(lK x.fr y.fr).v=Nat.gcd x.v y.v:=Uy _ _;have e3:=Lu hx.fr hg;have e4:=Lu hy.fr hg;have nf:iv.fr=iv:=rfl;have yQ:y.fr.v=y.v:=rfl;rw[Ow,yQ] at e2
 by_cases h0:y.v=0
 ·refine .inl ⟨h0,cO _ _ (AG zR (jT _ _)) rfl (m:=[cR zR]) ?_⟩;rw[RW];simp only[aa,aR,dj,ef,cY,fc,eZ,de,df,dc,ff,fg,eG,eH,eF,dK,dS,fh,eJ,eK,eI,dk,dw,fk,eM,eN,eL,dV,dX,fq,eQ,eR,eP,eO,ft,fw,eW,eX,eU,eT,fA,fB,dM,dN,ee,eu,eD,eC,ez,eh,dE,dU,eo,aJ,aP,aI,bV,cn,cm,bp,cZ,ei,fC,fe,dF,dR,dW,dL,dr,dp,e1,nf,e2,iS,aA];rw[an ((AB _).2 h0)]
 ·refine .inr ⟨h0,?_⟩
  have tK:Nat.gcd x.v y.v≠0:=by
   have:=Nat.gcd_pos_of_pos_right x.v (oP h0);omega
  have DJ:¬ (lK x.fr y.fr).v=0:=by rw[DL];exact tK
  unfold HD at e3 e4;rw[ai DJ] at e3 e4;have hq:(lG x.fr (lK x.fr y.fr)).ds=aC (x.v / Nat.gcd x.v y.v):=by rw[HA,DL];rfl
  have hd:(lG y.fr (lK x.fr y.fr)).ds=aC (y.v / Nat.gcd x.v y.v):=by rw[HA,DL];rfl
  refine ⟨⟨neg && decide (x.v / Nat.gcd x.v y.v > 0),lG x.fr (lK x.fr y.fr),lG y.fr (lK x.fr y.fr)⟩,?_,⟨(Yg h0).symm,?_,?_,(Ub hx.fr).nil,(Ub hy.fr).nil⟩,?_⟩
  ·refine (cO _ _ (AG ⟨neg && decide (x.v / Nat.gcd x.v y.v > 0),lG x.fr (lK x.fr y.fr),lG y.fr (lK x.fr y.fr)⟩ (jT .i64 0)) rfl (m:=[cR ⟨neg && decide (x.v / Nat.gcd x.v y.v > 0),lG x.fr (lK x.fr y.fr),lG y.fr (lK x.fr y.fr)⟩]) ?_).trans (by simp only[RV.fr,Dl]);rw[RW];simp only[aa,aR,dj,ef,cY,fc,eZ,de,df,dc,ff,fg,eG,eH,eF,dK,dS,fh,eJ,eK,eI,dk,dw,fk,eM,eN,eL,dV,dX,fq,eQ,eR,eP,eO,ft,fw,eW,eX,eU,eT,fA,fB,dM,dN,ee,eu,eD,eC,ez,eh,dE,dU,eo,aJ,aP,aI,bV,cn,cm,bp,cZ,ei,fC,fe,dF,dR,dW,dL,dr,dp,e1,nf,e2,iS,aA];rw[ai (fun h=>h0 ((AB _).1 h))];simp only[aa,aR,dj,ef,cY,fc,eZ,de,df,dc,ff,fg,eG,eH,eF,dK,dS,fh,eJ,eK,eI,dk,dw,fk,eM,eN,eL,dV,dX,fq,eQ,eR,eP,eO,ft,fw,eW,eX,eU,eT,fA,fB,dM,dN,ee,eu,eD,eC,ez,eh,dE,dU,eo,aJ,aP,aI,bV,cn,cm,bp,cZ,ei,fC,fe,dF,dR,dW,dL,dr,dp,hgf,e3,e4,iF,vx,hq]
   have hlen:decide ((aC (x.v / Nat.gcd x.v y.v)).length > 0)=decide (x.v / Nat.gcd x.v y.v > 0):=jS.2 (by
    constructor
    ·intro h;apply oP;intro e;rw[e,lF] at h;simp at h
    ·intro h;have:(aC (x.v / Nat.gcd x.v y.v)).length≠0:=fun e=>by have:=mX.1 e;omega
     omega)
   cases neg with
   | false=>rfl
   | true=>
    rw[oH,hlen];simp only[aa,aR,dj,ef,cY,fc,eZ,de,df,dc,ff,fg,eG,eH,eF,dK,dS,fh,eJ,eK,eI,dk,dw,fk,eM,eN,eL,dV,dX,fq,eQ,eR,eP,eO,ft,fw,eW,eX,eU,eT,fA,fB,dM,dN,ee,eu,eD,eC,ez,eh,dE,dU,eo,aJ,aP,aI,bV,cn,cm,bp,cZ,ei,fC,fe,dF,dR,dW,dL,dr,dp,iL]
  ·rw[OS h0];exact hq
  ·rw[OT h0];exact hd
  ·simp only[RV.fr,Dl]
theorem JA:zR.fr=zR:=rfl
theorem zD:nW.fr=nW:=rfl
theorem XB:jJ.fr=jJ:=rfl
theorem G8 {x y:NV} (neg:Bool) (hx:NOk x) (hy:NOk y):∃ r:RV,AP ae 126 [.bool neg,x.av,y.av]=some r.av/\Can r (cT neg x.v y.v)/\r.fr=r:=by
 rcases Sf neg hx.fr hy.fr with ⟨h0,h1⟩ | ⟨h0,r,h1,h2,h3⟩
 ·refine ⟨nW,cO _ _ (gU nW) (kO _) (m:=[cR nW,cR zR]) ?_,?_,zD⟩
  ·rw[RQ];simp only[aa,aR,dj,ef,cY,fc,eZ,de,df,dc,ff,fg,eG,eH,eF,dK,dS,fh,eJ,eK,eI,dk,dw,fk,eM,eN,eL,dV,dX,fq,eQ,eR,eP,eO,ft,fw,eW,eX,eU,eT,fA,fB,dM,dN,ee,eu,eD,eC,ez,eh,dE,dU,eo,aJ,aP,aI,bV,cn,cm,bp,cZ,ei,fC,fe,dF,dR,dW,dL,dr,dp,h1,jg,aA];rw[an (by decide)];simp only[aa,aR,dj,ef,cY,fc,eZ,de,df,dc,ff,fg,eG,eH,eF,dK,dS,fh,eJ,eK,eI,dk,dw,fk,eM,eN,eL,dV,dX,fq,eQ,eR,eP,eO,ft,fw,eW,eX,eU,eT,fA,fB,dM,dN,ee,eu,eD,eC,ez,eh,dE,dU,eo,aJ,aP,aI,bV,cn,cm,bp,cZ,ei,fC,fe,dF,dR,dW,dL,dr,dp,CW]
  ·have:y.v=0:=h0;rw[this,ze];exact wg
 ·refine ⟨r,(cO _ _ (gU r) (kO _) (m:=[cR r,cR r]) ?_).trans (by rw[h3]),h2,h3⟩;rw[RQ];simp only[aa,aR,dj,ef,cY,fc,eZ,de,df,dc,ff,fg,eG,eH,eF,dK,dS,fh,eJ,eK,eI,dk,dw,fk,eM,eN,eL,dV,dX,fq,eQ,eR,eP,eO,ft,fw,eW,eX,eU,eT,fA,fB,dM,dN,ee,eu,eD,eC,ez,eh,dE,dU,eo,aJ,aP,aI,bV,cn,cm,bp,cZ,ei,fC,fe,dF,dR,dW,dL,dr,dp,h1,jg,aA];rw[ai (by decide)]
def jm (r:RV):Int:=if r.num.v=0\/r.den.v=0 then 0 else if r.neg then -1 else 1
theorem G9 {r:RV} {k:Nat} (h:ROk k r):AP ae 129 [r.av]=some (.int .i64 (jm r)):=by
 have nf:iv.fr=iv:=rfl;have e1:=vV h.num.fr Ov;have e2:=vV h.den.fr Ov;have v1:r.num.fr.v=r.num.v:=rfl;have v2:r.den.fr.v=r.den.v:=rfl;rw[Ow,v1] at e1;rw[Ow,v2] at e2;refine cO _ _ (gh _ _) rfl (m:=[cR r]) ?_;rw[qfR];simp only[aa,aR,dj,ef,cY,fc,eZ,de,df,dc,ff,fg,eG,eH,eF,dK,dS,fh,eJ,eK,eI,dk,dw,fk,eM,eN,eL,dV,dX,fq,eQ,eR,eP,eO,ft,fw,eW,eX,eU,eT,fA,fB,dM,dN,ee,eu,eD,eC,ez,eh,dE,dU,eo,aJ,aP,aI,bV,cn,cm,bp,cZ,ei,fC,fe,dF,dR,dW,dL,dr,dp,nf,e1,iS,aA];unfold jm
 by_cases h1:r.num.v=0
 ·rw[an ((AB _).2 h1),an (.inl h1)]
 ·rw[ai (fun h=>h1 ((AB _).1 h))];simp only[aa,aR,dj,ef,cY,fc,eZ,de,df,dc,ff,fg,eG,eH,eF,dK,dS,fh,eJ,eK,eI,dk,dw,fk,eM,eN,eL,dV,dX,fq,eQ,eR,eP,eO,ft,fw,eW,eX,eU,eT,fA,fB,dM,dN,ee,eu,eD,eC,ez,eh,dE,dU,eo,aJ,aP,aI,bV,cn,cm,bp,cZ,ei,fC,fe,dF,dR,dW,dL,dr,dp,e2,iS,aA]
  by_cases h2:r.den.v=0
  ·rw[an ((AB _).2 h2),an (.inr h2)]
  ·rw[ai (fun h=>h2 ((AB _).1 h)),ai (fun h=>h.elim h1 h2)];cases hn:r.neg<;>rfl
end Go.Ab
namespace Go.Ab
noncomputable section
open Go.Proofs.Tryz
theorem T21 (a0 a1:AV) (m:af):AC ae 21 [a0,a1] m=(dI none (some 3) m a0).bind fun r1=>(dI none (some 3) r1.2 a1).bind fun r2=>(aj (some 3) r2.2 r1.1).bind fun v3=>(aj (some 3) r2.2 r2.1).bind fun v4=>(aD (AP ae) none r2.2 73 [v3,v4]).bind fun r5=>(ag .other .eql r5.1 (.int .i64 0)).bind fun v6=>some (v6,r5.2):=
(bm ae 21 [a0,a1] m (fn:=f21) (c:=aB f21) qi1 rfl).trans (by kernel_rfl)
theorem T73 (a0 a1:AV) (m:af):AC ae 73 [a0,a1] m=(dI none (some 3) m a0).bind fun r1=>(dI none (some 3) r1.2 a1).bind fun r2=>(aj (some 3) r2.2 r1.1).bind fun v3=>(aj (some 3) r2.2 r2.1).bind fun v4=>(aD (AP ae) none r2.2 134 [v3,v4]).bind fun r5=>(aD (AP ae) none r5.2 57 [r5.1]).bind fun r6=>some (r6.1,r6.2):=
(bm ae 73 [a0,a1] m (fn:=f73) (c:=aB f73) qjw rfl).trans (by kernel_rfl)
theorem T23 (m:af):AC ae 23 [] m=(aD (AP ae) none (az none m (.obj true [(.bool false),au,au])).2 72 [(.int .u64 1)]).bind fun r1=>(aD (AP ae) none r1.2 72 [(.int .u64 1)]).bind fun r2=>(gm (.agg [(.bool false),au,au]) [(1,none,r1.1),(2,none,r2.1)]).bind fun v3=>(aL (some 3) r2.2 (.ptr (az none m .resv).1 0) v3).bind fun m4=>(aj (some 3) m4 (.ptr (az none m .resv).1 0)).bind fun v5=>some (v5,m4):=
(bm ae 23 [] m (fn:=f23) (c:=aB f23) qi3 rfl).trans (by kernel_rfl)
theorem T20 (m:af):AC ae 20 [] m=(aD (AP ae) none (az none m (.obj true [(.bool false),au,au])).2 72 [(.int .u64 1)]).bind fun r1=>(gm (.agg [(.bool false),au,au]) [(2,none,r1.1)]).bind fun v2=>(aL (some 3) r1.2 (.ptr (az none m .resv).1 0) v2).bind fun m3=>(aj (some 3) m3 (.ptr (az none m .resv).1 0)).bind fun v4=>some (v4,m3):=
(bm ae 20 [] m (fn:=f20) (c:=aB f20) qiW rfl).trans (by kernel_rfl)
theorem Lr (a0 a1:AV) (m:af):AC ae 22 [a0,a1] m=(dI none (some 3) m a0).bind fun r1=>(dI none (some 3) r1.2 a1).bind fun r2=>(aj (some 3) (az none r2.2 (.obj true [(.bool false),au,au])).2 r1.1).bind fun v3=>(aD (AP ae) (some (az none r2.2 (.obj true [(.bool false),au,au])).2.length) (az none r2.2 (.obj true [(.bool false),au,au])).2 74 [v3]).bind fun r4=>(aj (some 3) r4.2 r2.1).bind fun v5=>(aD (AP ae) (some (az none r2.2 (.obj true [(.bool false),au,au])).2.length) r4.2 74 [v5]).bind fun r6=>(aL (some 3) r6.2 r1.1 r4.1).bind fun m7=>(aL (some 3) m7 r2.1 r6.1).bind fun m8=>(aT 1 r1.1).bind fun v9=>(aj none m8 v9).bind fun v10=>(aT 2 r2.1).bind fun v11=>(aj none m8 v11).bind fun v12=>(aD (AP ae) (some m8.length) m8 75 [v10,v12]).bind fun fK=>(aT 1 r2.1).bind fun bq=>(aj none fK.2 bq).bind fun br=>(aT 2 r1.1).bind fun bT=>(aj none fK.2 bT).bind fun bH=>(aD (AP ae) (some m8.length) fK.2 75 [br,bH]).bind fun gD=>(aT 2 r1.1).bind fun dG=>(aj none gD.2 dG).bind fun v20=>(aT 2 r2.1).bind fun v21=>(aj none gD.2 v21).bind fun v22=>(aD (AP ae) (some m8.length) gD.2 75 [v20,v22]).bind fun kP=>(aT 0 r1.1).bind fun v24=>(aj none kP.2 v24).bind fun v25=>(aD (AP ae) (some kP.2.length) kP.2 76 [fK.1,gD.1]).bind fun qH=>(aT 0 r1.1).bind fun kh=>(aj none qH.2 kh).bind fun v28=>(aT 0 r2.1).bind fun kR=>(aj none qH.2 kR).bind fun v30=>(ag .bl .neq v28 v30).bind fun v31=>aw v31 ((aD (AP ae) none qH.2 77 [fK.1,gD.1]).bind fun IZ=>(ag .other .geq IZ.1 (.int .i64 0)).bind fun pQ=>aw pQ ((aD (AP ae) none IZ.2 78 [fK.1,gD.1]).bind fun ue=>(aY ue.1 0).bind fun nw=>(aY ue.1 1).bind fun vI=>(aD (AP ae) none ue.2 79 [v25,nw,kP.1]).bind fun zi=>(aY zi.1 0).bind fun te=>(aY zi.1 1).bind fun uj=>(aL (some 3) (az none zi.2 (.obj true [(.bool false),au,au])).2 (.ptr (az none zi.2 .resv).1 0) te).bind fun m40=>(aj (some 3) m40 (.ptr (az none zi.2 .resv).1 0)).bind fun EN=>(aL (some 3) m40 (.ptr (az none r2.2 .resv).1 0) EN).bind fun m42=>(aj (some 3) m42 (.ptr (az none r2.2 .resv).1 0)).bind fun EO=>some (EO,m42)) ((aT 0 r2.1).bind fun Pw=>(aj none IZ.2 Pw).bind fun EP=>(aD (AP ae) none IZ.2 78 [gD.1,fK.1]).bind fun OW=>(aY OW.1 0).bind fun Px=>(aY OW.1 1).bind fun Zx=>(aD (AP ae) none OW.2 79 [EP,Px,kP.1]).bind fun w6=>(aY w6.1 0).bind fun v50=>(aY w6.1 1).bind fun v51=>(aL (some 3) (az none w6.2 (.obj true [(.bool false),au,au])).2 (.ptr (az none w6.2 .resv).1 0) v50).bind fun m52=>(aj (some 3) m52 (.ptr (az none w6.2 .resv).1 0)).bind fun v53=>(aL (some 3) m52 (.ptr (az none r2.2 .resv).1 0) v53).bind fun m54=>(aj (some 3) m54 (.ptr (az none r2.2 .resv).1 0)).bind fun Py=>some (Py,m54))) ((aD (AP ae) none qH.2 79 [v25,qH.1,kP.1]).bind fun EA=>(aY EA.1 0).bind fun v57=>(aY EA.1 1).bind fun Zy=>(aL (some 3) (az none EA.2 (.obj true [(.bool false),au,au])).2 (.ptr (az none EA.2 .resv).1 0) v57).bind fun m59=>(aj (some 3) m59 (.ptr (az none EA.2 .resv).1 0)).bind fun Pz=>(aL (some 3) m59 (.ptr (az none r2.2 .resv).1 0) Pz).bind fun m61=>(aj (some 3) m61 (.ptr (az none r2.2 .resv).1 0)).bind fun v62=>some (v62,m61)):=
(bm ae 22 [a0,a1] m (fn:=f22) (c:=aB f22) qi2 rfl).trans (by kernel_rfl)
theorem qfJ (a0 a1:AV) (m:af):AC ae 116 [a0,a1] m=(aD (AP ae) none (az none m (.obj true [(.bool false),au,au])).2 154 [a0]).bind fun r1=>(aY r1.1 0).bind fun v2=>(aY r1.1 1).bind fun v3=>(aD (AP ae) none r1.2 154 [a1]).bind fun r4=>(aY r4.1 0).bind fun v5=>(aY r4.1 1).bind fun v6=>(ag .bl .neq v3 v6).bind fun v7=>(aD (AP ae) none r4.2 79 [v7,v2,v5]).bind fun r8=>(aY r8.1 0).bind fun v9=>(aY r8.1 1).bind fun v10=>(aL (some 3) r8.2 (.ptr (az none m .resv).1 0) v9).bind fun m11=>(aj (some 3) m11 (.ptr (az none m .resv).1 0)).bind fun v12=>some ((.tup [v12,v10]),m11):=
(bm ae 116 [a0,a1] m (fn:=f116) (c:=aB f116) qh4 rfl).trans (by kernel_rfl)
theorem qfK (a0 a1:AV) (m:af):AC ae 117 [a0,a1] m=(dI none (some 3) m a0).bind fun r1=>(dI none (some 3) r1.2 a1).bind fun r2=>(aj (some 3) (az none r2.2 (.obj true [(.bool false),au,au])).2 r1.1).bind fun v3=>(aD (AP ae) (some (az none r2.2 (.obj true [(.bool false),au,au])).2.length) (az none r2.2 (.obj true [(.bool false),au,au])).2 74 [v3]).bind fun r4=>(aj (some 3) r4.2 r2.1).bind fun v5=>(aD (AP ae) (some (az none r2.2 (.obj true [(.bool false),au,au])).2.length) r4.2 74 [v5]).bind fun r6=>(aL (some 3) r6.2 r1.1 r4.1).bind fun m7=>(aL (some 3) m7 r2.1 r6.1).bind fun m8=>(aT 0 r1.1).bind fun v9=>(aj none (cU m8 1) v9).bind fun v10=>(aT 0 r2.1).bind fun v11=>(aj none (cU m8 1) v11).bind fun v12=>(ag .bl .neq v10 v12).bind fun bu=>(aT 1 r1.1).bind fun bq=>(aj none (cU m8 1) bq).bind fun br=>(aT 1 r2.1).bind fun bT=>(aj none (cU m8 1) bT).bind fun bH=>(aD (AP ae) (some m8.length) (cU m8 1) 75 [br,bH]).bind fun gD=>(aT 2 r1.1).bind fun dG=>(aj none gD.2 dG).bind fun v20=>(aT 2 r2.1).bind fun v21=>(aj none gD.2 v21).bind fun v22=>(aD (AP ae) (some m8.length) gD.2 75 [v20,v22]).bind fun kP=>(aD (AP ae) (some m8.length) kP.2 79 [bu,gD.1,kP.1]).bind fun mo=>(aY mo.1 0).bind fun v25=>(aY mo.1 1).bind fun v26=>(aL (some 3) (az (some m8.length) mo.2 (.obj true [(.bool false),au,au])).2 (.ptr (az (some m8.length) mo.2 .resv).1 0) v25).bind fun m27=>(aj (some 3) m27 (.ptr (az (some m8.length) mo.2 .resv).1 0)).bind fun v28=>(aL (some 3) m27 (.ptr (az none r2.2 .resv).1 0) v28).bind fun m29=>(aj (some 3) m29 (.ptr (az none r2.2 .resv).1 0)).bind fun v30=>some (v30,m29):=
(bm ae 117 [a0,a1] m (fn:=f117) (c:=aB f117) qh5 rfl).trans (by kernel_rfl)
theorem T57 (a0:AV) (m:af):AC ae 57 [a0] m=(dI none (some 3) m a0).bind fun r1=>(aj (some 3) r1.2 r1.1).bind fun v2=>(aD (AP ae) none r1.2 74 [v2]).bind fun r3=>(aL (some 3) r3.2 r1.1 r3.1).bind fun m4=>(aT 1 r1.1).bind fun v5=>(aj none m4 v5).bind fun v6=>(aO false v6).bind fun v7=>(ag .other .eql v7 (.int .i64 0)).bind fun v8=>aw v8 (some ((.int .i64 0),m4)) ((aT 0 r1.1).bind fun v9=>(aj none m4 v9).bind fun v10=>aw v10 (some ((.int .i64 (-1)),m4)) (some ((.int .i64 1),m4))):=
(bm ae 57 [a0] m (fn:=f57) (c:=aB f57) qjk rfl).trans (by kernel_rfl)
theorem qfX (a0 a1:AV) (m:af):AC ae 134 [a0,a1] m=(dI none (some 3) m a0).bind fun r1=>(dI none (some 3) r1.2 a1).bind fun r2=>(aj (some 3) (az none r2.2 (.obj true [(.bool false),au,au])).2 r1.1).bind fun v3=>(aj (some 3) (az none r2.2 (.obj true [(.bool false),au,au])).2 r2.1).bind fun v4=>(aD (AP ae) (some (az none r2.2 (.obj true [(.bool false),au,au])).2.length) (az none r2.2 (.obj true [(.bool false),au,au])).2 169 [v4]).bind fun r5=>(aD (AP ae) (some (az none r2.2 (.obj true [(.bool false),au,au])).2.length) r5.2 22 [v3,r5.1]).bind fun r6=>(aL (some 3) r6.2 (.ptr (az none r2.2 .resv).1 0) r6.1).bind fun m7=>(aj (some 3) m7 (.ptr (az none r2.2 .resv).1 0)).bind fun v8=>some (v8,m7):=
(bm ae 134 [a0,a1] m (fn:=f134) (c:=aB f134) qij rfl).trans (by kernel_rfl)
theorem R3 (a0:AV) (m:af):AC ae 74 [a0] m=(dI none (some 3) m a0).bind fun r1=>(aT 0 r1.1).bind fun v2=>(aj none (az none r1.2 (.obj true [(.bool false),au,au])).2 v2).bind fun v3=>(aT 1 r1.1).bind fun v4=>(aj none (az none r1.2 (.obj true [(.bool false),au,au])).2 v4).bind fun v5=>(aT 2 r1.1).bind fun v6=>(aj none (az none r1.2 (.obj true [(.bool false),au,au])).2 v6).bind fun v7=>(aD (AP ae) none (az none r1.2 (.obj true [(.bool false),au,au])).2 79 [v3,v5,v7]).bind fun r8=>(aY r8.1 0).bind fun v9=>(aY r8.1 1).bind fun v10=>(aL (some 3) (az none r8.2 (.obj true [(.bool false),au,au])).2 (.ptr (az none r8.2 .resv).1 0) v9).bind fun m11=>(ag .other .neq v10 (.int .i64 0)).bind fun v12=>aw v12 ((aD (AP ae) none m11 20 []).bind fun fK=>(aL (some 3) fK.2 (.ptr (az none r1.2 .resv).1 0) fK.1).bind fun m14=>(aj (some 3) m14 (.ptr (az none r1.2 .resv).1 0)).bind fun br=>some (br,m14)) ((aj (some 3) m11 (.ptr (az none r8.2 .resv).1 0)).bind fun bT=>(aL (some 3) m11 (.ptr (az none r1.2 .resv).1 0) bT).bind fun m17=>(aj (some 3) m17 (.ptr (az none r1.2 .resv).1 0)).bind fun fI=>some (fI,m17)):=
(bm ae 74 [a0] m (fn:=f74) (c:=aB f74) qjx rfl).trans (by kernel_rfl)
theorem R5 (a0 a1 a2:AV) (m:af):AC ae 79 [a0,a1,a2] m=(aD (AP ae) none (az none m (.obj true [(.bool false),au,au])).2 136 [a2]).bind fun r1=>(ag .other .eql r1.1 (.int .i64 0)).bind fun v2=>aw v2 ((gm (.agg [(.bool false),au,au]) []).bind fun v3=>(aL (some 3) r1.2 (.ptr (az none m .resv).1 0) v3).bind fun m4=>(aj (some 3) m4 (.ptr (az none m .resv).1 0)).bind fun v5=>some ((.tup [v5,(.int .i64 31)]),m4)) ((aD (AP ae) none r1.2 119 [a1,a2]).bind fun r6=>(aD (AP ae) none r6.2 137 [a1,r6.1]).bind fun r7=>(aY r7.1 0).bind fun v8=>(aY r7.1 1).bind fun v9=>(aY r7.1 2).bind fun v10=>(aD (AP ae) none r7.2 137 [a2,r6.1]).bind fun je=>(aY je.1 0).bind fun v12=>(aY je.1 1).bind fun bu=>(aY je.1 2).bind fun bq=>aw a0 ((aO false v8).bind fun br=>(ag .other .gtr br (.int .i64 0)).bind fun bT=>(gm (.agg [(.bool false),au,au]) [(0,none,bT),(1,none,v8),(2,none,v12)]).bind fun bH=>(aL (some 3) je.2 (.ptr (az none m .resv).1 0) bH).bind fun m18=>(aj (some 3) m18 (.ptr (az none m .resv).1 0)).bind fun dG=>some ((.tup [dG,(.int .i64 0)]),m18)) ((gm (.agg [(.bool false),au,au]) [(0,none,(.bool false)),(1,none,v8),(2,none,v12)]).bind fun v20=>(aL (some 3) je.2 (.ptr (az none m .resv).1 0) v20).bind fun m21=>(aj (some 3) m21 (.ptr (az none m .resv).1 0)).bind fun v22=>some ((.tup [v22,(.int .i64 0)]),m21))):=
(bm ae 79 [a0,a1,a2] m (fn:=f79) (c:=aB f79) qjC rfl).trans (by kernel_rfl)
theorem qf7 (a0:AV) (m:af):AC ae 154 [a0] m=(ag .other .lss a0 (.int .i64 0)).bind fun v1=>aw v1 ((ag .other .add a0 (.int .i64 1)).bind fun v2=>(jN .neg v2).bind fun v3=>(bn .u64 v3).bind fun v4=>(ag .other .add v4 (.int .u64 1)).bind fun v5=>(aD (AP ae) none m 72 [v5]).bind fun r6=>some ((.tup [r6.1,(.bool true)]),r6.2)) ((bn .u64 a0).bind fun v7=>(aD (AP ae) none m 72 [v7]).bind fun r8=>some ((.tup [r8.1,(.bool false)]),r8.2)):=
(bm ae 154 [a0] m (fn:=f154) (c:=aB f154) qiz rfl).trans (by kernel_rfl)
theorem RX (a0:AV) (m:af):AC ae 169 [a0] m=(dI none (some 3) m a0).bind fun r1=>(aj (some 3) (az none r1.2 (.obj true [(.bool false),au,au])).2 r1.1).bind fun v2=>(aD (AP ae) none (az none r1.2 (.obj true [(.bool false),au,au])).2 74 [v2]).bind fun r3=>(aL (some 3) r3.2 r1.1 r3.1).bind fun m4=>(aT 0 r1.1).bind fun v5=>(aj none m4 v5).bind fun v6=>(jN .not v6).bind fun v7=>aw v7 ((aT 1 r1.1).bind fun v8=>(aj none m4 v8).bind fun v9=>(aO false v9).bind fun v10=>(ag .other .gtr v10 (.int .i64 0)).bind fun v11=>(aT 0 r1.1).bind fun v12=>(aL none m4 v12 v11).bind fun m13=>(aj (some 3) m13 r1.1).bind fun bq=>(aL (some 3) m13 (.ptr (az none r1.2 .resv).1 0) bq).bind fun m15=>(aj (some 3) m15 (.ptr (az none r1.2 .resv).1 0)).bind fun bT=>some (bT,m15)) ((aT 0 r1.1).bind fun bH=>(aL none m4 bH (.bool false)).bind fun m18=>(aj (some 3) m18 r1.1).bind fun dG=>(aL (some 3) m18 (.ptr (az none r1.2 .resv).1 0) dG).bind fun m20=>(aj (some 3) m20 (.ptr (az none r1.2 .resv).1 0)).bind fun v21=>some (v21,m20)):=
(bm ae 169 [a0] m (fn:=f169) (c:=aB f169) qiJ rfl).trans (by kernel_rfl)
end
end Go.Ab
namespace Go.Ab
open Go.Proofs.Tryz
theorem Tv {x:NV} (h:sj x.ds=true):decide (x.ds.length=0)=decide (x.v=0):=by
 have:x.ds=aC x.v:=sV h;rw[this];exact jS.2 mX
theorem qgH {r:RV} {k:Nat} (h:ROk k r):AP ae 152 [r.av]=some (.bool (nt r)):=by
 have e1:=Sk h.num.fr;have e2:=Sk h.den.fr;have e3:=Sl h.num.fr h.den.fr;have hg:=Ux h.num.fr h.den.fr;have e4:=qgL hg.fr;have v4:(lK r.num.fr r.den.fr).fr.v=Nat.gcd r.num.v r.den.v:=Uy _ _;rw[v4] at e4;have d1:r.num.fr.ds=r.num.ds:=rfl;have d2:r.den.fr.ds=r.den.ds:=rfl;rw[d1] at e1;rw[d2] at e2;refine cO _ _ (qv _) rfl (m:=[cR r]) ?_;have one:∀ n:Nat,ag .other .eql (.int .u64 n) (.int .u64 1)=some (.bool (decide (n=1))):=fun n=>vw
 have tail:∀ m:af,((some (s9 (Nat.gcd r.num.v r.den.v),m)).bind fun mO=>(aY mO.1 0).bind fun v26=>(aY mO.1 1).bind fun kh=>
   aw kh ((ag .other .eql v26 (.int .u64 1)).bind fun v28=>some (v28,mO.2)) (some ((.bool false),mO.2)))=some (.bool (decide (Nat.gcd r.num.v r.den.v=1)),m):=by
  intro m;unfold s9
  split
  ·simp only[Nat.reduceAdd,aa,aR,dj,ef,cY,fc,eZ,de,df,dc,ff,fg,eG,eH,eF,dK,dS,fh,eJ,eK,eI,dk,dw,fk,eM,eN,eL,dV,dX,fq,eQ,eR,eP,eO,ft,fw,eW,eX,eU,eT,fA,fB,dM,dN,ee,eu,eD,eC,ez,eh,dE,dU,eo,aJ,aP,aI,bV,cn,cm,bp,cZ,ei,fC,fe,dF,dR,dW,dL,dr,dp,oH,one]
  ·rename_i hb;simp only[Nat.reduceAdd,aa,aR,dj,ef,cY,fc,eZ,de,df,dc,ff,fg,eG,eH,eF,dK,dS,fh,eJ,eK,eI,dk,dw,fk,eM,eN,eL,dV,dX,fq,eQ,eR,eP,eO,ft,fw,eW,eX,eU,eT,fA,fB,dM,dN,ee,eu,eD,eC,ez,eh,dE,dU,eo,aJ,aP,aI,bV,cn,cm,bp,cZ,ei,fC,fe,dF,dR,dW,dL,dr,dp,oG];rw[dd (by omega:¬ Nat.gcd r.num.v r.den.v=1)]
 rw[qf5];simp only[Nat.reduceAdd,aa,aR,dj,ef,cY,fc,eZ,de,df,dc,ff,fg,eG,eH,eF,dK,dS,fh,eJ,eK,eI,dk,dw,fk,eM,eN,eL,dV,dX,fq,eQ,eR,eP,eO,ft,fw,eW,eX,eU,eT,fA,fB,dM,dN,ee,eu,eD,eC,ez,eh,dE,dU,eo,aJ,aP,aI,bV,cn,cm,bp,cZ,ei,fC,fe,dF,dR,dW,dL,dr,dp,e1];unfold nt
 cases h1:sj r.num.ds with
 | false=>rfl
 | true=>
  simp only[Nat.reduceAdd,aa,aR,dj,ef,cY,fc,eZ,de,df,dc,ff,fg,eG,eH,eF,dK,dS,fh,eJ,eK,eI,dk,dw,fk,eM,eN,eL,dV,dX,fq,eQ,eR,eP,eO,ft,fw,eW,eX,eU,eT,fA,fB,dM,dN,ee,eu,eD,eC,ez,eh,dE,dU,eo,aJ,aP,aI,bV,cn,cm,bp,cZ,ei,fC,fe,dF,dR,dW,dL,dr,dp,kS,oG,e2,iL]
  cases h2:sj r.den.ds with
  | false=>rfl
  | true=>
   simp only[Nat.reduceAdd,aa,aR,dj,ef,cY,fc,eZ,de,df,dc,ff,fg,eG,eH,eF,dK,dS,fh,eJ,eK,eI,dk,dw,fk,eM,eN,eL,dV,dX,fq,eQ,eR,eP,eO,ft,fw,eW,eX,eU,eT,fA,fB,dM,dN,ee,eu,eD,eC,ez,eh,dE,dU,eo,aJ,aP,aI,bV,cn,cm,bp,cZ,ei,fC,fe,dF,dR,dW,dL,dr,dp,kS,oG,iF,nL,iL,Tv h2];rw[aA]
   by_cases h3:r.den.v=0
   ·rw[an h3];simp[h3]
   ·rw[ai h3];simp only[Nat.reduceAdd,aa,aR,dj,ef,cY,fc,eZ,de,df,dc,ff,fg,eG,eH,eF,dK,dS,fh,eJ,eK,eI,dk,dw,fk,eM,eN,eL,dV,dX,fq,eQ,eR,eP,eO,ft,fw,eW,eX,eU,eT,fA,fB,dM,dN,ee,eu,eD,eC,ez,eh,dE,dU,eo,aJ,aP,aI,bV,cn,cm,bp,cZ,ei,fC,fe,dF,dR,dW,dL,dr,dp,iF,nL,Tv h1];rw[aA]
    by_cases h4:r.num.v=0
    ·rw[an h4]
     cases hn:r.neg with
     | true=>rw[oH];simp[h4]
     | false=>
      rw[oG];simp only[Nat.reduceAdd,aa,aR,dj,ef,cY,fc,eZ,de,df,dc,ff,fg,eG,eH,eF,dK,dS,fh,eJ,eK,eI,dk,dw,fk,eM,eN,eL,dV,dX,fq,eQ,eR,eP,eO,ft,fw,eW,eX,eU,eT,fA,fB,dM,dN,ee,eu,eD,eC,ez,eh,dE,dU,eo,aJ,aP,aI,bV,cn,cm,bp,cZ,ei,fC,fe,dF,dR,dW,dL,dr,dp,e3,e4];refine (tail _).trans ?_;simp[h3]
    ·rw[ai h4];simp only[Nat.reduceAdd,aa,aR,dj,ef,cY,fc,eZ,de,df,dc,ff,fg,eG,eH,eF,dK,dS,fh,eJ,eK,eI,dk,dw,fk,eM,eN,eL,dV,dX,fq,eQ,eR,eP,eO,ft,fw,eW,eX,eU,eT,fA,fB,dM,dN,ee,eu,eD,eC,ez,eh,dE,dU,eo,aJ,aP,aI,bV,cn,cm,bp,cZ,ei,fC,fe,dF,dR,dW,dL,dr,dp,e3,e4];refine (tail _).trans ?_;simp[h3,h4]
theorem Ss:AP ae 72 [.int .u64 1]=some (bK 1).av:=CX (n:=1) (by omega)
def pR:RV:=⟨false,iv,bK 1⟩
def nr:RV:=⟨false,bK 1,bK 1⟩
theorem ED (n:Nat):(bK n).z=true->(bK n).ds=[]:=by
 intro h;unfold bK qI at h ⊢
 split at h
 ·split<;>first | rfl | (rename_i h1 h2;exact absurd h1 h2)
 ·cases h
theorem Tx:Can pR 0:=⟨rfl,lF.symm,kg 1,fun _=>rfl,ED 1⟩
theorem xX:Can nr 1:=⟨rfl,kg 1,kg 1,ED 1,ED 1⟩
theorem JB:pR.fr=pR:=by simp only[pR,RV.fr,jL];rfl
theorem Et:nr.fr=nr:=by simp only[nr,RV.fr,jL]
theorem Sm:AP ae 20 []=some pR.av:=by
 refine (cO _ _ (gU pR) (kO _) (m:=[cR pR]) ?_).trans (by rw[JB]);rw[T20];simp only[Nat.reduceAdd,aa,aR,dj,ef,cY,fc,eZ,de,df,dc,ff,fg,eG,eH,eF,dK,dS,fh,eJ,eK,eI,dk,dw,fk,eM,eN,eL,dV,dX,fq,eQ,eR,eP,eO,ft,fw,eW,eX,eU,eT,fA,fB,dM,dN,ee,eu,eD,eC,ez,eh,dE,dU,eo,aJ,aP,aI,bV,cn,cm,bp,cZ,ei,fC,fe,dF,dR,dW,dL,dr,dp,Ss]
 rfl
theorem Lv:AP ae 23 []=some nr.av:=by
 refine (cO _ _ (gU nr) (kO _) (m:=[cR nr]) ?_).trans (by rw[Et]);rw[T23];simp only[Nat.reduceAdd,aa,aR,dj,ef,cY,fc,eZ,de,df,dc,ff,fg,eG,eH,eF,dK,dS,fh,eJ,eK,eI,dk,dw,fk,eM,eN,eL,dV,dX,fq,eQ,eR,eP,eO,ft,fw,eW,eX,eU,eT,fA,fB,dM,dN,ee,eu,eD,eC,ez,eh,dE,dU,eo,aJ,aP,aI,bV,cn,cm,bp,cZ,ei,fC,fe,dF,dR,dW,dL,dr,dp,Ss]
 rfl
theorem Uf (k:Nat):ag .other .eql (.int .i64 k) (.int .i64 0)=some (.bool (decide (k=0))):=nL
theorem He {x y:NV} (neg:Bool) (hx:NOk x) (hy:NOk y) (lx:(aC x.v).length < 2 ^ 38) (ly:(aC y.v).length < 2 ^ 38):(y.v=0/\AP ae 79 [.bool neg,x.av,y.av]=some (.tup [zR.av,.int .i64 31])) \/
  (y.v≠0/\∃ r:RV,AP ae 79 [.bool neg,x.av,y.av]=some (.tup [r.av,.int .i64 0])/\Can r (cT neg x.v y.v)/\r.fr=r):=by
 obtain ⟨kb,e0,e0'⟩:=qgE hy.fr;have e1:=qgA hx.fr hy.fr lx ly;have v1:x.fr.v=x.v:=rfl;have v2:y.fr.v=y.v:=rfl;rw[v1,v2] at e1;rw[v2] at e0'
 have lg:(aC (Nat.gcd x.v y.v)).length < 2 ^ 38:=by
  by_cases h0:x.v=0
  ·rw[h0,Nat.gcd_zero_left];exact ly
  ·exact jq (lh (Nat.gcd_le_left _ (oP h0))) lx
 have hg:NOk (bK (Nat.gcd x.v y.v)):=ic (by omega);have e3:=Sb hx.fr hg (by rw[v1];omega) (by rw[fO];omega);have e4:=Sb hy.fr hg (by rw[v2];omega) (by rw[fO];omega)
 by_cases h0:y.v=0
 ·refine .inl ⟨h0,cO _ _ (AG zR (jT _ _)) rfl (m:=[cR zR]) ?_⟩;rw[R5];simp only[Nat.reduceAdd,aa,aR,dj,ef,cY,fc,eZ,de,df,dc,ff,fg,eG,eH,eF,dK,dS,fh,eJ,eK,eI,dk,dw,fk,eM,eN,eL,dV,dX,fq,eQ,eR,eP,eO,ft,fw,eW,eX,eU,eT,fA,fB,dM,dN,ee,eu,eD,eC,ez,eh,dE,dU,eo,aJ,aP,aI,bV,cn,cm,bp,cZ,ei,fC,fe,dF,dR,dW,dL,dr,dp,e0,Uf,aA];rw[an (e0'.2 h0)]
 ·refine .inr ⟨h0,?_⟩
  have tK:Nat.gcd x.v y.v≠0:=by
   have:=Nat.gcd_pos_of_pos_right x.v (oP h0);omega
  unfold L8 at e3 e4;rw[fO,ai tK,v1] at e3;rw[fO,ai tK,v2] at e4
  refine ⟨⟨neg && decide (x.v / Nat.gcd x.v y.v > 0),bK (x.v / Nat.gcd x.v y.v),bK (y.v / Nat.gcd x.v y.v)⟩,?_,⟨(Yg h0).symm,?_,?_,ED _,ED _⟩,?_⟩
  ·refine (cO _ _ (AG ⟨neg && decide (x.v / Nat.gcd x.v y.v > 0),bK (x.v / Nat.gcd x.v y.v),bK (y.v / Nat.gcd x.v y.v)⟩ (jT .i64 0)) rfl (m:=[cR ⟨neg && decide (x.v / Nat.gcd x.v y.v > 0),bK (x.v / Nat.gcd x.v y.v),bK (y.v / Nat.gcd x.v y.v)⟩]) ?_).trans (by simp only[RV.fr,jL]);rw[R5];simp only[Nat.reduceAdd,aa,aR,dj,ef,cY,fc,eZ,de,df,dc,ff,fg,eG,eH,eF,dK,dS,fh,eJ,eK,eI,dk,dw,fk,eM,eN,eL,dV,dX,fq,eQ,eR,eP,eO,ft,fw,eW,eX,eU,eT,fA,fB,dM,dN,ee,eu,eD,eC,ez,eh,dE,dU,eo,aJ,aP,aI,bV,cn,cm,bp,cZ,ei,fC,fe,dF,dR,dW,dL,dr,dp,e0,Uf,aA];rw[ai (fun h=>h0 (e0'.1 h))];simp only[Nat.reduceAdd,aa,aR,dj,ef,cY,fc,eZ,de,df,dc,ff,fg,eG,eH,eF,dK,dS,fh,eJ,eK,eI,dk,dw,fk,eM,eN,eL,dV,dX,fq,eQ,eR,eP,eO,ft,fw,eW,eX,eU,eT,fA,fB,dM,dN,ee,eu,eD,eC,ez,eh,dE,dU,eo,aJ,aP,aI,bV,cn,cm,bp,cZ,ei,fC,fe,dF,dR,dW,dL,dr,dp,e1,jL,e3,e4,pf,vx]
   have hlen:decide ((aC (x.v / Nat.gcd x.v y.v)).length > 0)=decide (x.v / Nat.gcd x.v y.v > 0):=jS.2 (by
    constructor
    ·intro h;apply oP;intro e;rw[e,lF] at h;simp at h
    ·intro h;have:(aC (x.v / Nat.gcd x.v y.v)).length≠0:=fun e=>by have:=mX.1 e;omega
     omega)
   cases neg with
   | false=>rfl
   | true=>
    rw[oH,hlen];simp only[Nat.reduceAdd,aa,aR,dj,ef,cY,fc,eZ,de,df,dc,ff,fg,eG,eH,eF,dK,dS,fh,eJ,eK,eI,dk,dw,fk,eM,eN,eL,dV,dX,fq,eQ,eR,eP,eO,ft,fw,eW,eX,eU,eT,fA,fB,dM,dN,ee,eu,eD,eC,ez,eh,dE,dU,eo,aJ,aP,aI,bV,cn,cm,bp,cZ,ei,fC,fe,dF,dR,dW,dL,dr,dp,iL]
  ·rw[OS h0];exact kg _
  ·rw[OT h0];exact kg _
  ·simp only[RV.fr,jL]
theorem Aq {r:RV} {k:Nat} (h:ROk k r) (hk:k < 2 ^ 38):∃ s:RV,AP ae 74 [r.av]=some s.av/\Can s r.q/\s.fr=s:=by
 have ln:=dY h.num.v_len h.ln;have ld:=dY h.den.v_len h.ld
 rcases He r.neg h.num.fr h.den.fr (by show (aC r.num.v).length < _;omega) (by show (aC r.den.v).length < _;omega) with ⟨h0,h1⟩ | ⟨h0,s,h1,h2,h3⟩
 ·refine ⟨pR,(cO _ _ (gU pR) (kO _) (m:=[cR r,cR pR,cR zR]) ?_).trans (by rw[JB]),?_,JB⟩
  ·rw[R3];simp only[Nat.reduceAdd,aa,aR,dj,ef,cY,fc,eZ,de,df,dc,ff,fg,eG,eH,eF,dK,dS,fh,eJ,eK,eI,dk,dw,fk,eM,eN,eL,dV,dX,fq,eQ,eR,eP,eO,ft,fw,eW,eX,eU,eT,fA,fB,dM,dN,ee,eu,eD,eC,ez,eh,dE,dU,eo,aJ,aP,aI,bV,cn,cm,bp,cZ,ei,fC,fe,dF,dR,dW,dL,dr,dp,h1,jg,aA];rw[an (by decide)];simp only[Nat.reduceAdd,aa,aR,dj,ef,cY,fc,eZ,de,df,dc,ff,fg,eG,eH,eF,dK,dS,fh,eJ,eK,eI,dk,dw,fk,eM,eN,eL,dV,dX,fq,eQ,eR,eP,eO,ft,fw,eW,eX,eU,eT,fA,fB,dM,dN,ee,eu,eD,eC,ez,eh,dE,dU,eo,aJ,aP,aI,bV,cn,cm,bp,cZ,ei,fC,fe,dF,dR,dW,dL,dr,dp,Sm]
  ·have:r.den.v=0:=h0;rw[RV.q,this,ze];exact Tx
 ·refine ⟨s,(cO _ _ (gU s) (kO _) (m:=[cR r,cR s,cR s]) ?_).trans (by rw[h3]),h2,h3⟩;rw[R3];simp only[Nat.reduceAdd,aa,aR,dj,ef,cY,fc,eZ,de,df,dc,ff,fg,eG,eH,eF,dK,dS,fh,eJ,eK,eI,dk,dw,fk,eM,eN,eL,dV,dX,fq,eQ,eR,eP,eO,ft,fw,eW,eX,eU,eT,fA,fB,dM,dN,ee,eu,eD,eC,ez,eh,dE,dU,eo,aJ,aP,aI,bV,cn,cm,bp,cZ,ei,fC,fe,dF,dR,dW,dL,dr,dp,h1,jg,aA];rw[ai (by decide)]
end Go.Ab
namespace Go.Ab
open Go.Proofs.Tryz
def EF (q:Rat):Int:=if q=0 then 0 else if q.num < 0 then -1 else 1
theorem qoW (q:Rat):EF q=0↔q=0:=by
 unfold EF
 constructor
 ·intro h
  split at h
  ·assumption
  ·split at h<;>omega
 ·intro h;rw[an h]
theorem Can.len0 {r:RV} {q:Rat} (h:Can r q):r.num.ds.length=0↔q=0:=by
 rw[h.num,mX,Int.natAbs_eq_zero,Rat.num_eq_zero]
theorem V57 {r:RV} {k:Nat} (h:ROk k r) (hk:k < 2 ^ 38):AP ae 57 [r.av]=some (.int .i64 (EF r.q)):=by
 obtain ⟨s,e1,e2,e3⟩:=Aq h.fr hk;rw[RV.fr_q] at e2;refine cO _ _ (gh _ _) rfl (m:=[cR s]) ?_;rw[T57];simp only[Nat.reduceAdd,aa,aR,dj,ef,cY,fc,eZ,de,df,dc,ff,fg,eG,eH,eF,dK,dS,fh,eJ,eK,eI,dk,dw,fk,eM,eN,eL,dV,dX,fq,eQ,eR,eP,eO,ft,fw,eW,eX,eU,eT,fA,fB,dM,dN,ee,eu,eD,eC,ez,eh,dE,dU,eo,aJ,aP,aI,bV,cn,cm,bp,cZ,ei,fC,fe,dF,dR,dW,dL,dr,dp,e1,iF,nL,aA];unfold EF
 by_cases h0:r.q=0
 ·rw[an (e2.len0.2 h0),an h0]
 ·rw[ai (fun hh=>h0 (e2.len0.1 hh)),ai h0,e2.neg,aA];split<;>rfl
theorem qgJ {r:RV} {k:Nat} (h:ROk k r) (hk:k < 2 ^ 38):∃ s:RV,AP ae 169 [r.av]=some s.av/\Can s (-r.q)/\s.fr=s:=by
 obtain ⟨s,e1,e2,e3⟩:=Aq h.fr hk;rw[RV.fr_q] at e2
 have hlen:∀ b:Bool,decide (s.num.ds.length > 0)=decide (r.q≠0):=by
  intro b;refine jS.2 ?_;have:=e2.len0
  constructor
  ·intro h1 h2;have:=this.2 h2;omega
  ·intro h1;have:s.num.ds.length≠0:=fun e=>h1 (this.1 e);omega
 have lA:s.num.fr=s.num:=cV RV.num e3;have mJ:s.den.fr=s.den:=cV RV.den e3
 have hc:∀ b:Bool,b=decide ((-r.q).num < 0)->Can ⟨b,s.num,s.den⟩ (-r.q):=by
  intro b hb
  refine ⟨hb,?_,?_,e2.numz,e2.denz⟩
  ·rw[Rat.neg_num,Int.natAbs_neg];exact e2.num
  ·rw[Rat.neg_den];exact e2.den
 cases hn:s.neg with
 | true=>
  have hq:r.q.num < 0:=by have:=e2.neg;rw[hn] at this;exact sV this.symm
  refine ⟨⟨false,s.num,s.den⟩,(cO _ _ (gU ⟨false,s.num,s.den⟩) (kO _) (m:=[cR ⟨false,s.num,s.den⟩,cR ⟨false,s.num,s.den⟩]) ?_).trans (by simp only[RV.fr,lA,mJ]),hc false ?_,by simp only[RV.fr,lA,mJ]⟩
  ·rw[RX];simp only[Nat.reduceAdd,aa,aR,dj,ef,cY,fc,eZ,de,df,dc,ff,fg,eG,eH,eF,dK,dS,fh,eJ,eK,eI,dk,dw,fk,eM,eN,eL,dV,dX,fq,eQ,eR,eP,eO,ft,fw,eW,eX,eU,eT,fA,fB,dM,dN,ee,eu,eD,eC,ez,eh,dE,dU,eo,aJ,aP,aI,bV,cn,cm,bp,cZ,ei,fC,fe,dF,dR,dW,dL,dr,dp,e1,hn,kS,oG]
  ·rw[Rat.neg_num];exact (dd (by omega)).symm
 | false=>
  have hq:¬ r.q.num < 0:=by have:=e2.neg;rw[hn] at this;exact of_decide_eq_false this.symm
  refine ⟨⟨decide (r.q≠0),s.num,s.den⟩,(cO _ _ (gU ⟨decide (r.q≠0),s.num,s.den⟩) (kO _) (m:=[cR ⟨decide (r.q≠0),s.num,s.den⟩,cR ⟨decide (r.q≠0),s.num,s.den⟩]) ?_).trans (by simp only[RV.fr,lA,mJ]),hc _ ?_,by simp only[RV.fr,lA,mJ]⟩
  ·rw[RX];simp only[Nat.reduceAdd,aa,aR,dj,ef,cY,fc,eZ,de,df,dc,ff,fg,eG,eH,eF,dK,dS,fh,eJ,eK,eI,dk,dw,fk,eM,eN,eL,dV,dX,fq,eQ,eR,eP,eO,ft,fw,eW,eX,eU,eT,fA,fB,dM,dN,ee,eu,eD,eC,ez,eh,dE,dU,eo,aJ,aP,aI,bV,cn,cm,bp,cZ,ei,fC,fe,dF,dR,dW,dL,dr,dp,e1,hn,nX,oH,iF,vx,hlen true]
  ·rw[Rat.neg_num];refine jS.2 ?_;have h0:r.q=0↔r.q.num=0:=Rat.num_eq_zero.symm
   constructor
   ·intro h1;have:r.q.num≠0:=fun e=>h1 (h0.2 e);omega
   ·intro h1 h2;have:=h0.1 h2;omega
theorem Sq {a b:RV} {k:Nat} (ha:ROk k a) (hb:ROk k b) (hk1:1<=k) (hk:k < 2 ^ 36):∃ s:RV,AP ae 22 [a.av,b.av]=some s.av/\Can s (a.q+b.q)/\s.fr=s:=by
 obtain ⟨s,e1,e2,e3⟩:=Aq ha.fr (by omega);obtain ⟨t,f1,f2,f3⟩:=Aq hb.fr (by omega);rw[RV.fr_q] at e2 f2;have os:=e2.ok (ha.bd hk1) (by omega);have ot:=f2.ok (hb.bd hk1) (by omega);have lA:s.num.fr=s.num:=cV RV.num e3;have mJ:s.den.fr=s.den:=cV RV.den e3;have vp:t.num.fr=t.num:=cV RV.num f3;have vq:t.den.fr=t.den:=cV RV.den f3;have lx:=oK (dY os.num.v_len os.ln) (dY ot.den.v_len ot.ld);have ly:=oK (dY ot.num.v_len ot.ln) (dY os.den.v_len os.ld);have ld:=oK (dY os.den.v_len os.ld) (dY ot.den.v_len ot.ld);have lxy:=N5 lx ly;have g1:=Ar os.num ot.den;have g2:=Ar ot.num os.den;have g3:=Ar os.den ot.den;have ox:NOk (bK (s.num.v * t.den.v)):=ic (by omega);have oy:NOk (bK (t.num.v * s.den.v)):=ic (by omega);have od:NOk (bK (s.den.v * t.den.v)):=ic (by omega);have g4:=Su ox oy (jL _) (jL _);have g5:=CY ox oy;have g6:=CZ ox oy (jL _) (jL _);have g7:=CZ oy ox (jL _) (jL _);rw[fO,fO] at g4 g5;unfold BK at g6 g7;rw[fO,fO] at g6 g7;have wC:s.den.v * t.den.v≠0:=Nat.mul_ne_zero e2.den0 f2.den0
 have nH:a.q+b.q=mkRat (fP s.neg (s.num.v * t.den.v)+fP t.neg (t.num.v * s.den.v)) (s.den.v * t.den.v):=by
  rw[<- e2.q,<- f2.q];exact IU e2.den0 f2.den0
 have fin:∀ (neg:Bool) (n:Nat),(aC n).length < 2 ^ 38->mkRat (fP s.neg (s.num.v * t.den.v)+fP t.neg (t.num.v * s.den.v)) (s.den.v * t.den.v)=cT neg n (s.den.v * t.den.v)->∃ r:RV,AP ae 79 [.bool neg,(bK n).av,(bK (s.den.v * t.den.v)).av]=some (.tup [r.av,.int .i64 0])/\Can r (a.q+b.q)/\r.fr=r:=by
  intro neg n hn he
  rcases He neg (ic (n:=n) (by omega)) od (by rw[fO];exact hn) (by rw[fO];omega) with ⟨h0,_⟩ | ⟨_,r,h1,h2,h3⟩
  ·rw[fO] at h0;exact absurd h0 wC
  ·rw[fO,fO,<- he,<- nH] at h2;exact ⟨r,h1,h2,h3⟩
 by_cases hn:s.neg=t.neg
 ·obtain ⟨r,h1,h2,h3⟩:=fin s.neg (s.num.v * t.den.v+t.num.v * s.den.v) (by omega) (by rw[<- hn,YP];rfl);refine ⟨r,(cO _ _ (gU r) (kO _) (m:=[cR s,cR t,cR r,cR r]) ?_).trans (by rw[h3]),h2,h3⟩;rw[Lr];simp only[Nat.reduceAdd,aa,aR,dj,ef,cY,fc,eZ,de,df,dc,ff,fg,eG,eH,eF,dK,dS,fh,eJ,eK,eI,dk,dw,fk,eM,eN,eL,dV,dX,fq,eQ,eR,eP,eO,ft,fw,eW,eX,eU,eT,fA,fB,dM,dN,ee,eu,eD,eC,ez,eh,dE,dU,eo,aJ,aP,aI,bV,cn,cm,bp,cZ,ei,fC,fe,dF,dR,dW,dL,dr,dp,e1,f1,lA,mJ,vp,vq,g1,g2,g3,jL,g4,hn,bne_self_eq_false,oG];rw[hn] at h1;simp only[Nat.reduceAdd,aa,aR,dj,ef,cY,fc,eZ,de,df,dc,ff,fg,eG,eH,eF,dK,dS,fh,eJ,eK,eI,dk,dw,fk,eM,eN,eL,dV,dX,fq,eQ,eR,eP,eO,ft,fw,eW,eX,eU,eT,fA,fB,dM,dN,ee,eu,eD,eC,ez,eh,dE,dU,eo,aJ,aP,aI,bV,cn,cm,bp,cZ,ei,fC,fe,dF,dR,dW,dL,dr,dp,h1]
 ·have hne:(s.neg != t.neg)=true:=by simpa using hn
  by_cases hlt:s.num.v * t.den.v < t.num.v * s.den.v
  ·obtain ⟨r,h1,h2,h3⟩:=fin t.neg (t.num.v * s.den.v - s.num.v * t.den.v) (jq (lh (Nat.sub_le _ _)) (by omega)) (by rw[YN hn hlt];rfl);refine ⟨r,(cO _ _ (gU r) (kO _) (m:=[cR s,cR t,cR r,cR r]) ?_).trans (by rw[h3]),h2,h3⟩;have hc:¬ gQ (s.num.v * t.den.v) (t.num.v * s.den.v)≥0:=by unfold gQ;rw[an hlt];omega
   rw[ai (by omega)] at g7;rw[Lr];simp only[Nat.reduceAdd,aa,aR,dj,ef,cY,fc,eZ,de,df,dc,ff,fg,eG,eH,eF,dK,dS,fh,eJ,eK,eI,dk,dw,fk,eM,eN,eL,dV,dX,fq,eQ,eR,eP,eO,ft,fw,eW,eX,eU,eT,fA,fB,dM,dN,ee,eu,eD,eC,ez,eh,dE,dU,eo,aJ,aP,aI,bV,cn,cm,bp,cZ,ei,fC,fe,dF,dR,dW,dL,dr,dp,e1,f1,lA,mJ,vp,vq,g1,g2,g3,jL,g4,hne,oH,g5,jZ,aA];rw[ai hc];simp only[Nat.reduceAdd,aa,aR,dj,ef,cY,fc,eZ,de,df,dc,ff,fg,eG,eH,eF,dK,dS,fh,eJ,eK,eI,dk,dw,fk,eM,eN,eL,dV,dX,fq,eQ,eR,eP,eO,ft,fw,eW,eX,eU,eT,fA,fB,dM,dN,ee,eu,eD,eC,ez,eh,dE,dU,eo,aJ,aP,aI,bV,cn,cm,bp,cZ,ei,fC,fe,dF,dR,dW,dL,dr,dp,jL,g7,h1]
  ·obtain ⟨r,h1,h2,h3⟩:=fin s.neg (s.num.v * t.den.v - t.num.v * s.den.v) (jq (lh (Nat.sub_le _ _)) (by omega)) (by rw[YM hn hlt];rfl);refine ⟨r,(cO _ _ (gU r) (kO _) (m:=[cR s,cR t,cR r,cR r]) ?_).trans (by rw[h3]),h2,h3⟩;have hc:gQ (s.num.v * t.den.v) (t.num.v * s.den.v)≥0:=by unfold gQ;rw[ai hlt];split<;>omega
   rw[ai hlt] at g6;rw[Lr];simp only[Nat.reduceAdd,aa,aR,dj,ef,cY,fc,eZ,de,df,dc,ff,fg,eG,eH,eF,dK,dS,fh,eJ,eK,eI,dk,dw,fk,eM,eN,eL,dV,dX,fq,eQ,eR,eP,eO,ft,fw,eW,eX,eU,eT,fA,fB,dM,dN,ee,eu,eD,eC,ez,eh,dE,dU,eo,aJ,aP,aI,bV,cn,cm,bp,cZ,ei,fC,fe,dF,dR,dW,dL,dr,dp,e1,f1,lA,mJ,vp,vq,g1,g2,g3,jL,g4,hne,oH,g5,jZ,aA];rw[an hc];simp only[Nat.reduceAdd,aa,aR,dj,ef,cY,fc,eZ,de,df,dc,ff,fg,eG,eH,eF,dK,dS,fh,eJ,eK,eI,dk,dw,fk,eM,eN,eL,dV,dX,fq,eQ,eR,eP,eO,ft,fw,eW,eX,eU,eT,fA,fB,dM,dN,ee,eu,eD,eC,ez,eh,dE,dU,eo,aJ,aP,aI,bV,cn,cm,bp,cZ,ei,fC,fe,dF,dR,dW,dL,dr,dp,jL,g6,h1]
theorem qgD {a b:RV} {k:Nat} (ha:ROk k a) (hb:ROk k b) (hk1:1<=k) (hk:k < 2 ^ 36):∃ s:RV,AP ae 134 [a.av,b.av]=some s.av/\Can s (a.q - b.q)/\s.fr=s:=by
 obtain ⟨t,f1,f2,f3⟩:=qgJ hb.fr (by omega);rw[RV.fr_q] at f2
 have bt:Bd k (-b.q):=by
  have:=hb.bd hk1
  refine ⟨?_,?_⟩
  ·rw[Rat.neg_num,Int.natAbs_neg];exact this.1
  ·rw[Rat.neg_den];exact this.2
 have ot:=f2.ok bt (by omega);obtain ⟨s,e1,e2,e3⟩:=Sq ha.fr ot hk1 hk;rw[f2.q,RV.fr_q,<- Rat.sub_eq_add_neg] at e2;refine ⟨s,(cO _ _ (gU s) (kO _) (m:=[cR a,cR b,cR s]) ?_).trans (by rw[e3]),e2,e3⟩;rw[qfX];simp only[Nat.reduceAdd,aa,aR,dj,ef,cY,fc,eZ,de,df,dc,ff,fg,eG,eH,eF,dK,dS,fh,eJ,eK,eI,dk,dw,fk,eM,eN,eL,dV,dX,fq,eQ,eR,eP,eO,ft,fw,eW,eX,eU,eT,fA,fB,dM,dN,ee,eu,eD,eC,ez,eh,dE,dU,eo,aJ,aP,aI,bV,cn,cm,bp,cZ,ei,fC,fe,dF,dR,dW,dL,dr,dp,f1,f3,e1]
theorem V73 {a b:RV} {k:Nat} (ha:ROk k a) (hb:ROk k b) (hk1:1<=k) (hk:k < 2 ^ 36):AP ae 73 [a.av,b.av]=some (.int .i64 (EF (a.q - b.q))):=by
 obtain ⟨s,e1,e2,e3⟩:=qgD ha.fr hb.fr hk1 hk;rw[RV.fr_q,RV.fr_q] at e2
 have bs:=PR (ha.bd hk1) (q:=-b.q) (l:=k) (by
  have:=hb.bd hk1
  refine ⟨?_,?_⟩
  ·rw[Rat.neg_num,Int.natAbs_neg];exact this.1
  ·rw[Rat.neg_den];exact this.2) hk1
 rw[<- Rat.sub_eq_add_neg] at bs;have os:=e2.ok bs (by omega);have e4:=V57 os (by omega);rw[e2.q] at e4;refine cO _ _ (gh _ _) rfl (m:=[cR a,cR b]) ?_;rw[T73];simp only[Nat.reduceAdd,aa,aR,dj,ef,cY,fc,eZ,de,df,dc,ff,fg,eG,eH,eF,dK,dS,fh,eJ,eK,eI,dk,dw,fk,eM,eN,eL,dV,dX,fq,eQ,eR,eP,eO,ft,fw,eW,eX,eU,eT,fA,fB,dM,dN,ee,eu,eD,eC,ez,eh,dE,dU,eo,aJ,aP,aI,bV,cn,cm,bp,cZ,ei,fC,fe,dF,dR,dW,dL,dr,dp,e1,e3,e4]
theorem Sp {a b:RV} {k:Nat} (ha:ROk k a) (hb:ROk k b) (hk1:1<=k) (hk:k < 2 ^ 36):AP ae 21 [a.av,b.av]=some (.bool (decide (a.q=b.q))):=by
 have e1:=V73 ha.fr hb.fr hk1 hk;rw[RV.fr_q,RV.fr_q] at e1;refine cO _ _ (qv _) rfl (m:=[cR a,cR b]) ?_;rw[T21];simp only[Nat.reduceAdd,aa,aR,dj,ef,cY,fc,eZ,de,df,dc,ff,fg,eG,eH,eF,dK,dS,fh,eJ,eK,eI,dk,dw,fk,eM,eN,eL,dV,dX,fq,eQ,eR,eP,eO,ft,fw,eW,eX,eU,eT,fA,fB,dM,dN,ee,eu,eD,eC,ez,eh,dE,dU,eo,aJ,aP,aI,bV,cn,cm,bp,cZ,ei,fC,fe,dF,dR,dW,dL,dr,dp,e1,iS];congr 3;refine jS.2 ?_;rw[qoW]
 constructor
 ·intro h;have:=Rat.sub_add_cancel (a:=a.q) (b:=b.q);rw[h,Rat.zero_add] at this;exact this.symm
 ·intro h;rw[h,Rat.sub_self]
end Go.Ab
namespace Go.Ab
open Go.Proofs.Tryz
theorem qgz {a b:RV} {k:Nat} (ha:ROk k a) (hb:ROk k b) (hk1:1<=k) (hk:k < 2 ^ 36):∃ s:RV,AP ae 117 [a.av,b.av]=some s.av/\Can s (a.q * b.q)/\s.fr=s:=by
 obtain ⟨s,e1,e2,e3⟩:=Aq ha.fr (by omega);obtain ⟨t,f1,f2,f3⟩:=Aq hb.fr (by omega);rw[RV.fr_q] at e2 f2;have os:=e2.ok (ha.bd hk1) (by omega);have ot:=f2.ok (hb.bd hk1) (by omega);have lA:s.num.fr=s.num:=cV RV.num e3;have mJ:s.den.fr=s.den:=cV RV.den e3;have vp:t.num.fr=t.num:=cV RV.num f3;have vq:t.den.fr=t.den:=cV RV.den f3;have ln:=oK (dY os.num.v_len os.ln) (dY ot.num.v_len ot.ln);have ld:=oK (dY os.den.v_len os.ld) (dY ot.den.v_len ot.ld);have g1:=Ar os.num ot.num;have g3:=Ar os.den ot.den;have on:NOk (bK (s.num.v * t.num.v)):=ic (by omega);have od:NOk (bK (s.den.v * t.den.v)):=ic (by omega);have wC:s.den.v * t.den.v≠0:=Nat.mul_ne_zero e2.den0 f2.den0;have hq:cT (s.neg != t.neg) (s.num.v * t.num.v) (s.den.v * t.den.v)=a.q * b.q:=by rw[<- zf,<- e2.q,<- f2.q];rfl
 rcases He (s.neg != t.neg) on od (by rw[fO];omega) (by rw[fO];omega) with ⟨h0,_⟩ | ⟨_,r,h1,h2,h3⟩
 ·rw[fO] at h0;exact absurd h0 wC
 ·rw[fO,fO,hq] at h2;refine ⟨r,(cO _ _ (gU r) (kO _) (m:=[cR s,cR t,cR r,cR r]) ?_).trans (by rw[h3]),h2,h3⟩;rw[qfK];simp only[Nat.reduceAdd,aa,aR,dj,ef,cY,fc,eZ,de,df,dc,ff,fg,eG,eH,eF,dK,dS,fh,eJ,eK,eI,dk,dw,fk,eM,eN,eL,dV,dX,fq,eQ,eR,eP,eO,ft,fw,eW,eX,eU,eT,fA,fB,dM,dN,ee,eu,eD,eC,ez,eh,dE,dU,eo,aJ,aP,aI,bV,cn,cm,bp,cZ,ei,fC,fe,dF,dR,dW,dL,dr,dp,e1,f1,lA,mJ,vp,vq,g1,g3,jL,h1]
theorem Lx {a b:RV} {k:Nat} (ha:ROk k a) (hb:ROk k b) (hk1:1<=k) (hk:k < 2 ^ 36):∃ s:RV,AP ae 69 [a.av,b.av]=some s.av/\Can s (a.q * b.q)/\s.fr=s:=by
 have g1:=xT ha.num.fr hb.num.fr;have g2:=xT ha.den.fr hb.den.fr;have v1:a.num.fr.v=a.num.v:=rfl;have v2:a.den.fr.v=a.den.v:=rfl;have v3:b.num.fr.v=b.num.v:=rfl;have v4:b.den.fr.v=b.den.v:=rfl;rw[v1,v3] at g1;rw[v2,v4] at g2;have ln:=oK (dY ha.num.v_len ha.ln) (dY hb.num.v_len hb.ln);have ld:=oK (dY ha.den.v_len ha.ld) (dY hb.den.v_len hb.ld);have on:NOk ⟨false,.no,aC (a.num.v * b.num.v)⟩:=ub (by omega);have od:NOk ⟨false,.no,aC (a.den.v * b.den.v)⟩:=ub (by omega);have nf:∀ n:Nat,(NV.mk false .no (aC n)).fr=⟨false,.no,aC n⟩:=fun _=>rfl;have nv:∀ n:Nat,(NV.mk false .no (aC n)).v=n:=fun n=>gz n;obtain ⟨r,h1,h2,h3⟩:=G8 (a.neg != b.neg) on od;rw[nv,nv,<- zf] at h2;refine ⟨r,(cO _ _ (gU r) (kO _) (m:=[cR a,cR b,cR r]) ?_).trans (by rw[h3]),h2,h3⟩;rw[T69];simp only[Nat.reduceAdd,aa,aR,dj,ef,cY,fc,eZ,de,df,dc,ff,fg,eG,eH,eF,dK,dS,fh,eJ,eK,eI,dk,dw,fk,eM,eN,eL,dV,dX,fq,eQ,eR,eP,eO,ft,fw,eW,eX,eU,eT,fA,fB,dM,dN,ee,eu,eD,eC,ez,eh,dE,dU,eo,aJ,aP,aI,bV,cn,cm,bp,cZ,ei,fC,fe,dF,dR,dW,dL,dr,dp,g1,g2,nf,h1]
theorem YV {r:RV}:jm r=0↔r.q=0:=by
 unfold jm
 by_cases h:r.num.v=0\/r.den.v=0
 ·rw[an h];refine ⟨fun _=>?_,fun _=>rfl⟩
  rcases h with h | h
  ·rw[RV.q,h,vD]
  ·rw[RV.q,h,ze]
 ·rw[ai h]
  constructor
  ·intro h';split at h'<;>omega
  ·intro h';have hd:r.den.v≠0:=fun e=>h (.inr e);exact absurd (.inl ((Yf hd).1 h')) h
theorem Hd {a b:RV} {k:Nat} (ha:ROk k a) (hb:ROk k b) (hk1:1<=k) (hk:k < 2 ^ 36):∃ s:RV,AP ae 71 [a.av,b.av]=some s.av/\Can s (a.q+b.q)/\s.fr=s:=by
 have e1:=G9 ha.fr;have e2:=G9 hb.fr;have s1:jm a.fr=jm a:=rfl;have s2:jm b.fr=jm b:=rfl;rw[s1] at e1;rw[s2] at e2;have v1:a.num.fr.v=a.num.v:=rfl;have v2:a.den.fr.v=a.den.v:=rfl;have v3:b.num.fr.v=b.num.v:=rfl;have v4:b.den.fr.v=b.den.v:=rfl
 by_cases yq:jm a=0
 ·obtain ⟨r,h1,h2,h3⟩:=G8 b.neg hb.num.fr hb.den.fr;rw[v3,v4] at h2
  refine ⟨r,(cO _ _ (gU r) (kO _) (m:=[cR a,cR b,cR r]) ?_).trans (by rw[h3]),?_,h3⟩
  ·rw[CU];simp only[Nat.reduceAdd,aa,aR,dj,ef,cY,fc,eZ,de,df,dc,ff,fg,eG,eH,eF,dK,dS,fh,eJ,eK,eI,dk,dw,fk,eM,eN,eL,dV,dX,fq,eQ,eR,eP,eO,ft,fw,eW,eX,eU,eT,fA,fB,dM,dN,ee,eu,eD,eC,ez,eh,dE,dU,eo,aJ,aP,aI,bV,cn,cm,bp,cZ,ei,fC,fe,dF,dR,dW,dL,dr,dp,e1,iS,aA];rw[an yq];simp only[Nat.reduceAdd,aa,aR,dj,ef,cY,fc,eZ,de,df,dc,ff,fg,eG,eH,eF,dK,dS,fh,eJ,eK,eI,dk,dw,fk,eM,eN,eL,dV,dX,fq,eQ,eR,eP,eO,ft,fw,eW,eX,eU,eT,fA,fB,dM,dN,ee,eu,eD,eC,ez,eh,dE,dU,eo,aJ,aP,aI,bV,cn,cm,bp,cZ,ei,fC,fe,dF,dR,dW,dL,dr,dp,h1]
  ·rw[YV.1 yq,Rat.zero_add];exact h2
 ·by_cases hb0:jm b=0
  ·obtain ⟨r,h1,h2,h3⟩:=G8 a.neg ha.num.fr ha.den.fr;rw[v1,v2] at h2
   refine ⟨r,(cO _ _ (gU r) (kO _) (m:=[cR a,cR b,cR r]) ?_).trans (by rw[h3]),?_,h3⟩
   ·rw[CU];simp only[Nat.reduceAdd,aa,aR,dj,ef,cY,fc,eZ,de,df,dc,ff,fg,eG,eH,eF,dK,dS,fh,eJ,eK,eI,dk,dw,fk,eM,eN,eL,dV,dX,fq,eQ,eR,eP,eO,ft,fw,eW,eX,eU,eT,fA,fB,dM,dN,ee,eu,eD,eC,ez,eh,dE,dU,eo,aJ,aP,aI,bV,cn,cm,bp,cZ,ei,fC,fe,dF,dR,dW,dL,dr,dp,e1,iS,aA];rw[ai yq];simp only[Nat.reduceAdd,aa,aR,dj,ef,cY,fc,eZ,de,df,dc,ff,fg,eG,eH,eF,dK,dS,fh,eJ,eK,eI,dk,dw,fk,eM,eN,eL,dV,dX,fq,eQ,eR,eP,eO,ft,fw,eW,eX,eU,eT,fA,fB,dM,dN,ee,eu,eD,eC,ez,eh,dE,dU,eo,aJ,aP,aI,bV,cn,cm,bp,cZ,ei,fC,fe,dF,dR,dW,dL,dr,dp,e2,iS,aA];rw[an hb0];simp only[Nat.reduceAdd,aa,aR,dj,ef,cY,fc,eZ,de,df,dc,ff,fg,eG,eH,eF,dK,dS,fh,eJ,eK,eI,dk,dw,fk,eM,eN,eL,dV,dX,fq,eQ,eR,eP,eO,ft,fw,eW,eX,eU,eT,fA,fB,dM,dN,ee,eu,eD,eC,ez,eh,dE,dU,eo,aJ,aP,aI,bV,cn,cm,bp,cZ,ei,fC,fe,dF,dR,dW,dL,dr,dp,h1]
   ·rw[YV.1 hb0,Rat.add_zero];exact h2
  ·have da:a.den.v≠0:=fun e=>yq (by unfold jm;rw[an (.inr e)]);have db:b.den.v≠0:=fun e=>hb0 (by unfold jm;rw[an (.inr e)]);have g1:=xT ha.num.fr hb.den.fr;have g2:=xT hb.num.fr ha.den.fr;have g3:=xT ha.den.fr hb.den.fr;rw[v1,v4] at g1;rw[v3,v2] at g2;rw[v2,v4] at g3;have lx:=oK (dY ha.num.v_len ha.ln) (dY hb.den.v_len hb.ld);have ly:=oK (dY hb.num.v_len hb.ln) (dY ha.den.v_len ha.ld);have ld:=oK (dY ha.den.v_len ha.ld) (dY hb.den.v_len hb.ld);have lxy:=N5 lx ly;have ox:NOk ⟨false,.no,aC (a.num.v * b.den.v)⟩:=ub (by omega);have oy:NOk ⟨false,.no,aC (b.num.v * a.den.v)⟩:=ub (by omega);have od:NOk ⟨false,.no,aC (a.den.v * b.den.v)⟩:=ub (by omega);have nf:∀ n:Nat,(NV.mk false .no (aC n)).fr=⟨false,.no,aC n⟩:=fun _=>rfl;have nv:∀ n:Nat,(NV.mk false .no (aC n)).v=n:=fun n=>gz n;have g4:=qgC ox oy;have g5:=vV ox oy;have g6:=Sa ox oy;have g7:=Sa oy ox;rw[nv,nv] at g4 g5;unfold Pg at g6 g7;rw[nv,nv] at g6 g7;have nH:a.q+b.q=mkRat (fP a.neg (a.num.v * b.den.v)+fP b.neg (b.num.v * a.den.v)) (a.den.v * b.den.v):=IU da db
   have fin:∀ (neg:Bool) (n:Nat),(aC n).length < 2 ^ 38->mkRat (fP a.neg (a.num.v * b.den.v)+fP b.neg (b.num.v * a.den.v)) (a.den.v * b.den.v)=cT neg n (a.den.v * b.den.v)->∃ r:RV,AP ae 126 [.bool neg,(NV.mk false .no (aC n)).av,(NV.mk false .no (aC (a.den.v * b.den.v))).av]=some r.av/\Can r (a.q+b.q)/\r.fr=r:=by
    intro neg n hn he;obtain ⟨r,h1,h2,h3⟩:=G8 neg (x:=⟨false,.no,aC n⟩) (ub (by omega)) od;rw[nv,nv,<- he,<- nH] at h2;exact ⟨r,h1,h2,h3⟩
   by_cases hn:a.neg=b.neg
   ·obtain ⟨r,h1,h2,h3⟩:=fin a.neg (a.num.v * b.den.v+b.num.v * a.den.v) (by omega) (by rw[<- hn,YP];rfl);refine ⟨r,(cO _ _ (gU r) (kO _) (m:=[cR a,cR b,cR r]) ?_).trans (by rw[h3]),h2,h3⟩;rw[CU];simp only[Nat.reduceAdd,aa,aR,dj,ef,cY,fc,eZ,de,df,dc,ff,fg,eG,eH,eF,dK,dS,fh,eJ,eK,eI,dk,dw,fk,eM,eN,eL,dV,dX,fq,eQ,eR,eP,eO,ft,fw,eW,eX,eU,eT,fA,fB,dM,dN,ee,eu,eD,eC,ez,eh,dE,dU,eo,aJ,aP,aI,bV,cn,cm,bp,cZ,ei,fC,fe,dF,dR,dW,dL,dr,dp,e1,iS,aA];rw[ai yq];simp only[Nat.reduceAdd,aa,aR,dj,ef,cY,fc,eZ,de,df,dc,ff,fg,eG,eH,eF,dK,dS,fh,eJ,eK,eI,dk,dw,fk,eM,eN,eL,dV,dX,fq,eQ,eR,eP,eO,ft,fw,eW,eX,eU,eT,fA,fB,dM,dN,ee,eu,eD,eC,ez,eh,dE,dU,eo,aJ,aP,aI,bV,cn,cm,bp,cZ,ei,fC,fe,dF,dR,dW,dL,dr,dp,e2,iS,aA];rw[ai hb0];rw[hn] at h1;simp only[Nat.reduceAdd,aa,aR,dj,ef,cY,fc,eZ,de,df,dc,ff,fg,eG,eH,eF,dK,dS,fh,eJ,eK,eI,dk,dw,fk,eM,eN,eL,dV,dX,fq,eQ,eR,eP,eO,ft,fw,eW,eX,eU,eT,fA,fB,dM,dN,ee,eu,eD,eC,ez,eh,dE,dU,eo,aJ,aP,aI,bV,cn,cm,bp,cZ,ei,fC,fe,dF,dR,dW,dL,dr,dp,g1,g2,g3,nf,hn,BEq.rfl,oH,g4,h1]
   ·have hne:(a.neg == b.neg)=false:=by simpa using hn
    by_cases hlt:a.num.v * b.den.v < b.num.v * a.den.v
    ·obtain ⟨r,h1,h2,h3⟩:=fin b.neg (b.num.v * a.den.v - a.num.v * b.den.v) (jq (lh (Nat.sub_le _ _)) (by omega)) (by rw[YN hn hlt];rfl);refine ⟨r,(cO _ _ (gU r) (kO _) (m:=[cR b,cR b,cR r]) ?_).trans (by rw[h3]),h2,h3⟩;have hc:gQ (a.num.v * b.den.v) (b.num.v * a.den.v) < 0:=by unfold gQ;rw[an hlt];omega
     rw[ai (by omega)] at g7;rw[CU];simp only[Nat.reduceAdd,aa,aR,dj,ef,cY,fc,eZ,de,df,dc,ff,fg,eG,eH,eF,dK,dS,fh,eJ,eK,eI,dk,dw,fk,eM,eN,eL,dV,dX,fq,eQ,eR,eP,eO,ft,fw,eW,eX,eU,eT,fA,fB,dM,dN,ee,eu,eD,eC,ez,eh,dE,dU,eo,aJ,aP,aI,bV,cn,cm,bp,cZ,ei,fC,fe,dF,dR,dW,dL,dr,dp,e1,iS,aA];rw[ai yq];simp only[Nat.reduceAdd,aa,aR,dj,ef,cY,fc,eZ,de,df,dc,ff,fg,eG,eH,eF,dK,dS,fh,eJ,eK,eI,dk,dw,fk,eM,eN,eL,dV,dX,fq,eQ,eR,eP,eO,ft,fw,eW,eX,eU,eT,fA,fB,dM,dN,ee,eu,eD,eC,ez,eh,dE,dU,eo,aJ,aP,aI,bV,cn,cm,bp,cZ,ei,fC,fe,dF,dR,dW,dL,dr,dp,e2,iS,aA];rw[ai hb0];simp only[Nat.reduceAdd,aa,aR,dj,ef,cY,fc,eZ,de,df,dc,ff,fg,eG,eH,eF,dK,dS,fh,eJ,eK,eI,dk,dw,fk,eM,eN,eL,dV,dX,fq,eQ,eR,eP,eO,ft,fw,eW,eX,eU,eT,fA,fB,dM,dN,ee,eu,eD,eC,ez,eh,dE,dU,eo,aJ,aP,aI,bV,cn,cm,bp,cZ,ei,fC,fe,dF,dR,dW,dL,dr,dp,g1,g2,g3,nf,hne,oG,g5,bh,aA];rw[an hc];simp only[Nat.reduceAdd,aa,aR,dj,ef,cY,fc,eZ,de,df,dc,ff,fg,eG,eH,eF,dK,dS,fh,eJ,eK,eI,dk,dw,fk,eM,eN,eL,dV,dX,fq,eQ,eR,eP,eO,ft,fw,eW,eX,eU,eT,fA,fB,dM,dN,ee,eu,eD,eC,ez,eh,dE,dU,eo,aJ,aP,aI,bV,cn,cm,bp,cZ,ei,fC,fe,dF,dR,dW,dL,dr,dp,nf,g7,h1]
    ·obtain ⟨r,h1,h2,h3⟩:=fin a.neg (a.num.v * b.den.v - b.num.v * a.den.v) (jq (lh (Nat.sub_le _ _)) (by omega)) (by rw[YM hn hlt];rfl);refine ⟨r,(cO _ _ (gU r) (kO _) (m:=[cR a,cR b,cR r]) ?_).trans (by rw[h3]),h2,h3⟩;have hc:¬ gQ (a.num.v * b.den.v) (b.num.v * a.den.v) < 0:=by unfold gQ;rw[ai hlt];split<;>omega
     rw[ai hlt] at g6;rw[CU];simp only[Nat.reduceAdd,aa,aR,dj,ef,cY,fc,eZ,de,df,dc,ff,fg,eG,eH,eF,dK,dS,fh,eJ,eK,eI,dk,dw,fk,eM,eN,eL,dV,dX,fq,eQ,eR,eP,eO,ft,fw,eW,eX,eU,eT,fA,fB,dM,dN,ee,eu,eD,eC,ez,eh,dE,dU,eo,aJ,aP,aI,bV,cn,cm,bp,cZ,ei,fC,fe,dF,dR,dW,dL,dr,dp,e1,iS,aA];rw[ai yq];simp only[Nat.reduceAdd,aa,aR,dj,ef,cY,fc,eZ,de,df,dc,ff,fg,eG,eH,eF,dK,dS,fh,eJ,eK,eI,dk,dw,fk,eM,eN,eL,dV,dX,fq,eQ,eR,eP,eO,ft,fw,eW,eX,eU,eT,fA,fB,dM,dN,ee,eu,eD,eC,ez,eh,dE,dU,eo,aJ,aP,aI,bV,cn,cm,bp,cZ,ei,fC,fe,dF,dR,dW,dL,dr,dp,e2,iS,aA];rw[ai hb0];simp only[Nat.reduceAdd,aa,aR,dj,ef,cY,fc,eZ,de,df,dc,ff,fg,eG,eH,eF,dK,dS,fh,eJ,eK,eI,dk,dw,fk,eM,eN,eL,dV,dX,fq,eQ,eR,eP,eO,ft,fw,eW,eX,eU,eT,fA,fB,dM,dN,ee,eu,eD,eC,ez,eh,dE,dU,eo,aJ,aP,aI,bV,cn,cm,bp,cZ,ei,fC,fe,dF,dR,dW,dL,dr,dp,g1,g2,g3,nf,hne,oG,g5,bh,aA];rw[ai hc];simp only[Nat.reduceAdd,aa,aR,dj,ef,cY,fc,eZ,de,df,dc,ff,fg,eG,eH,eF,dK,dS,fh,eJ,eK,eI,dk,dw,fk,eM,eN,eL,dV,dX,fq,eQ,eR,eP,eO,ft,fw,eW,eX,eU,eT,fA,fB,dM,dN,ee,eu,eD,eC,ez,eh,dE,dU,eo,aJ,aP,aI,bV,cn,cm,bp,cZ,ei,fC,fe,dF,dR,dW,dL,dr,dp,nf,g6,h1]
end Go.Ab
namespace Go.Ab
open Go.Proofs.Tryz
def Hv (a b:RV):Int:=if jm a < jm b then -1 else if jm a > jm b then 1 else jm a * gQ (a.num.v * b.den.v) (b.num.v * a.den.v)
theorem qo3 (r:RV):jm r=-1\/jm r=0\/jm r=1:=by
 unfold jm
 split
 ·exact .inr (.inl rfl)
 ·split
  ·exact .inl rfl
  ·exact .inr (.inr rfl)
theorem qkn (a b:Nat):gQ a b=-1\/gQ a b=0\/gQ a b=1:=by
 unfold gQ
 split
 ·exact .inl rfl
 ·split
  ·exact .inr (.inr rfl)
  ·exact .inr (.inl rfl)
theorem TU (a b:Nat):gQ a b=0↔a=b:=by
 unfold gQ
 split
 ·constructor
  ·intro h;cases h
  ·intro h;omega
 ·split
  ·constructor
   ·intro h;cases h
   ·intro h;omega
  ·constructor
   ·intro _;omega
   ·intro _;rfl
theorem qmA {a b:Int} (ha:a=-1\/a=0\/a=1) (hb:b=-1\/b=0\/b=1):ag .other .mul (.int .i64 a) (.int .i64 b)=some (.int .i64 (a * b)):=by
 rcases ha with rfl | rfl | rfl<;>rcases hb with rfl | rfl | rfl<;>rfl
theorem qgI {a b:RV} {k:Nat} (ha:ROk k a) (hb:ROk k b) (fa:a.fr=a) (fb:b.fr=b) (hk1:1<=k) (hk:k < 2 ^ 36):AP ae 153 [a.av,b.av]=some (.int .i64 (Hv a b)):=by
 have fan:a.num.fr=a.num:=cV RV.num fa;have fad:a.den.fr=a.den:=cV RV.den fa;have fbn:b.num.fr=b.num:=cV RV.num fb;have fbd:b.den.fr=b.den:=cV RV.den fb;have l1:(aC (a.num.v * b.den.v)).length < 2 ^ 40:=jq (oK (dY ha.num.v_len ha.ln) (dY hb.den.v_len hb.ld)) (by omega);have l2:(aC (b.num.v * a.den.v)).length < 2 ^ 40:=jq (oK (dY hb.num.v_len hb.ln) (dY ha.den.v_len ha.ld)) (by omega);have e1:=xT ha.num hb.den;have e2:=xT hb.num ha.den;have e3:=vV (x:=⟨false,.no,aC (a.num.v * b.den.v)⟩) (y:=⟨false,.no,aC (b.num.v * a.den.v)⟩) (ub l1) (ub l2);have v1:NV.v ⟨false,.no,aC (a.num.v * b.den.v)⟩=a.num.v * b.den.v:=gz _;have v2:NV.v ⟨false,.no,aC (b.num.v * a.den.v)⟩=b.num.v * a.den.v:=gz _;rw[v1,v2] at e3;have q1:∀ (d:Option Nat) (mm:af),aD (AP ae) d mm 129 [a.av]=some (.int .i64 (jm a),mm):=fun d mm=>by rw[dL,fa,G9 ha];rfl
 have q2:∀ (d:Option Nat) (mm:af),aD (AP ae) d mm 129 [b.av]=some (.int .i64 (jm b),mm):=fun d mm=>by rw[dL,fb,G9 hb];rfl
 have q3:∀ (d:Option Nat) (mm:af),aD (AP ae) d mm 127 [a.num.av,b.den.av]=some (NV.av ⟨false,.no,aC (a.num.v * b.den.v)⟩,mm):=fun d mm=>by rw[dR,fan,fbd,e1];rfl
 have q4:∀ (d:Option Nat) (mm:af),aD (AP ae) d mm 127 [b.num.av,a.den.av]=some (NV.av ⟨false,.no,aC (b.num.v * a.den.v)⟩,mm):=fun d mm=>by rw[dR,fbn,fad,e2];rfl
 have q5:∀ (d:Option Nat) (mm:af),aD (AP ae) d mm 131 [NV.av ⟨false,.no,aC (a.num.v * b.den.v)⟩,NV.av ⟨false,.no,aC (b.num.v * a.den.v)⟩]=some (.int .i64 (gQ (a.num.v * b.den.v) (b.num.v * a.den.v)),mm):=fun d mm=>by
  rw[dR,show NV.fr ⟨false,.no,aC (a.num.v * b.den.v)⟩=⟨false,.no,aC (a.num.v * b.den.v)⟩ from rfl,show NV.fr ⟨false,.no,aC (b.num.v * a.den.v)⟩=⟨false,.no,aC (b.num.v * a.den.v)⟩ from rfl,e3];rfl
 refine cO _ _ (gh _ _) rfl (m:=[cR a,cR b]) ?_;rw[qf6,dj,aa,dj,aa];simp only[aP,bV,aJ,cn,bp];rw[BE (x:=a) rfl,aa,q1,aa,BE (x:=b) rfl,aa,q2,aa,bh,aa,aA];unfold Hv
 by_cases c1:jm a < jm b
 ·rw[an c1,an c1]
 ·rw[ai c1,ai c1,ir,aa,aA]
  by_cases c2:jm a > jm b
  ·rw[an c2,an c2]
  ·rw[ai c2,ai c2,df,aa,Yu (x:=a) rfl,aa,dc,aa,Yv (x:=b) rfl,aa,q3,aa,df,aa,Yu (x:=b) rfl,aa,dc,aa,Yv (x:=a) rfl,aa,q4,aa,q5,aa,qmA (qo3 a) (qkn _ _),aa]
theorem YO (neg:Bool) (n:Nat):fP neg n=if neg then -(n:Int) else n:=by cases neg<;>rfl
theorem qkm (a b:RV):Hv a b=0↔a.q=b.q:=by
 have key:∀ r:RV,(jm r=0/\r.q=0)\/(r.num.v≠0/\r.den.v≠0/\r.q≠0/\jm r=if r.neg then -1 else 1):=by
  intro r
  by_cases h:r.num.v=0\/r.den.v=0
  ·left;refine ⟨by unfold jm;rw[an h],?_⟩
   rcases h with h | h
   ·rw[RV.q,h,vD]
   ·rw[RV.q,h,ze]
  ·right;refine ⟨fun e=>h (.inl e),fun e=>h (.inr e),?_,by unfold jm;rw[ai h]⟩;intro e;have hd:r.den.v≠0:=fun e=>h (.inr e)
   have:fP r.neg r.num.v=0:=by
    have e':mkRat (fP r.neg r.num.v) r.den.v=0:=e;exact (Rat.mkRat_eq_zero hd).1 e'
   have h2:(fP r.neg r.num.v).natAbs=0:=by rw[this];rfl
   rw[BG] at h2;exact h (.inl h2)
 unfold Hv
 rcases key a with ⟨a1,a2⟩ | ⟨a1,a2,a3,a4⟩
 ·rcases key b with ⟨b1,b2⟩ | ⟨b1,b2,b3,b4⟩
  ·rw[a1,b1,a2,b2];simp
  ·rw[a1,a2]
   constructor
   ·intro h;rw[b4] at h;by_cases hb:b.neg=true<;>simp[hb] at h
   ·intro h;exact absurd h.symm b3
 ·rcases key b with ⟨b1,b2⟩ | ⟨b1,b2,b3,b4⟩
  ·rw[b1,b2]
   constructor
   ·intro h;rw[a4] at h;by_cases hb:a.neg=true<;>simp[hb] at h
   ·intro h;exact absurd h a3
  ·have hq:a.q=b.q↔fP a.neg a.num.v * (b.den.v:Int)=fP b.neg b.num.v * (a.den.v:Int):=Rat.mkRat_eq_iff a2 b2;rw[hq,a4,b4,YO,YO];have p1:0 < a.num.v * b.den.v:=Nat.mul_pos (by omega) (by omega);have p2:0 < b.num.v * a.den.v:=Nat.mul_pos (by omega) (by omega);have p1':(a.num.v:Int) * (b.den.v:Int)=((a.num.v * b.den.v:Nat):Int):=(qR _ _).symm;have p2':(b.num.v:Int) * (a.den.v:Int)=((b.num.v * a.den.v:Nat):Int):=(qR _ _).symm
   cases a.neg<;>cases b.neg
   ·simp only[jX,me,p1',p2'];rw[ai (by omega),ai (by omega),Int.one_mul,TU];omega
   ·simp only[jX,me,bw,Int.neg_mul,p1',p2'];rw[ai (by omega),an (by omega)];omega
   ·simp only[jX,me,bw,Int.neg_mul,p1',p2'];rw[an (by omega)];omega
   ·simp only[bw,Int.neg_mul,p1',p2'];rw[ai (by omega),ai (by omega),Int.one_mul,Int.neg_eq_zero,TU];omega
theorem qgx {a b:RV} {k:Nat} (ha:ROk k a) (hb:ROk k b) (fa:a.fr=a) (fb:b.fr=b) (hk1:1<=k) (hk:k < 2 ^ 36):AP ae 113 [a.av,b.av]=some (.bool (decide (a.q=b.q))):=by
 have e:=qgI ha hb fa fb hk1 hk;refine cO (.bool (decide (a.q=b.q))) (.bool (decide (a.q=b.q))) (fun _=>rfl) rfl (m:=[cR a,cR b]) ?_;rw[qfG,dj,aa,dj,aa];simp only[aP,bV,aJ,cn,bp];rw[BE (x:=a) rfl,aa,BE (x:=b) rfl,aa,dr,fa,fb,e,aR,aa,iS,aa];rw[jS.2 (qkm a b)]
theorem Bs (m:af):az none m (.obj true [.bool false,au,au])=(m.length,m++[cR zR]):=rfl
theorem Sc {n:Nat} (h:n < 9223372036854775808):AP ae 154 [.int .i64 (n:Int)]=some (.tup [(bK n).av,.bool false]):=by
 refine cO _ _ (uR (uS n) (Mv false)) rfl (m:=[]) ?_;rw[qf7,IF,aa,oG,Ax (by omega),aa,dF,CX (by omega)];rfl
theorem qgy {a b:Nat} (ha:a < 9223372036854775808) (hb:b < 9223372036854775808) (h0:b≠0):∃ r:RV,AP ae 116 [.int .i64 (a:Int),.int .i64 (b:Int)]=some (.tup [r.av,.int .i64 0])/\Can r (cT false a b)/\r.fr=r:=by
 have la:(aC a).length<=2:=mF (by omega);have lb:(aC b).length<=2:=mF (by omega)
 rcases He false (ic (n:=a) (by omega)) (ic (n:=b) (by omega)) (by rw[fO];omega) (by rw[fO];omega) with ⟨h,_⟩ | ⟨_,r,e,h2,h3⟩
 ·rw[fO] at h;exact absurd h h0
 ·rw[fO,fO] at h2;refine ⟨r,(cO _ _ (AG r (jT .i64 0)) rfl (m:=[cR r]) ?_).trans (by rw[h3]),h2,h3⟩;rw[qfJ];simp only[Nat.reduceAdd,aa,aR,dj,ef,cY,dS,dK,dM,dN,eh,dU,aJ,aP,bV,dF,dW,Sc ha,Sc hb,jL,bne_self_eq_false,e]
end Go.Ab
namespace Go.Ab
noncomputable section
open Go.Proofs.Tryz
def Kx (x1 x3:AV) (m:af):St:=⟨(aG (x1::aG (x3::bA (aM [])))),m⟩
def GX (x2:AV) (m:af):St:=⟨(aK (x2::bA (aM (aG [])))),m⟩
def FP (x1 x3 qP E8 BU:AV) (m:af) (K:KT):OM:=ck 112 (b9 (c2 (c2 (c2 (aB f112))))) 5 (aG (x1::aG (x3::bI (qP::E8::BU::bI (aG []))))) m K
abbrev qaC (K:KT):KT:=bE 112 (bo (aB f112)) K
abbrev qaD (K:KT):KT:=bz 0 (qaC K)
abbrev Fi (K:KT):KT:=(qaD K)
theorem qfF (a0:AV) (m:af):AC ae 112 [a0] m=(dI none (some 4) m a0).bind fun r1=>(aT 0 r1.1).bind fun v2=>(aj none r1.2 v2).bind fun v3=>(aO false v3).bind fun v4=>(ag .other .gtr v4 (.int .i64 16)).bind fun v5=>aw v5 (some ((.bool false),r1.2)) ((aT 3 r1.1).bind fun v6=>(aj none r1.2 v6).bind fun v7=>(ag .other .lss v7 (.int .i64 0)).bind fun v8=>aw v8 (some ((.bool false),r1.2)) ((aT 3 r1.1).bind fun v9=>(aj none r1.2 v9).bind fun v10=>(ag .other .gtr v10 (.int .i64 2147483647)).bind fun v11=>aw v11 (some ((.bool false),r1.2)) ((aT 1 r1.1).bind fun v12=>(aj none r1.2 v12).bind fun bu=>(aO false bu).bind fun bq=>(ag .other .gtr bq (.int .i64 4000)).bind fun br=>aw br (some ((.bool false),r1.2)) ((aT 2 r1.1).bind fun bT=>(aj none r1.2 bT).bind fun bH=>(aO false bH).bind fun fI=>(aT 1 r1.1).bind fun dG=>(aj none r1.2 dG).bind fun v20=>(aO false v20).bind fun v21=>(ag .other .neq fI v21).bind fun v22=>aw v22 (some ((.bool false),r1.2)) ((aT 0 r1.1).bind fun v23=>(aj none r1.2 v23).bind fun v24=>(aO false v24).bind fun v25=>FP r1.1 (.lst none true .full []) v24 v25 (.int .i64 0) r1.2 (Fi (aE ae.P f112.results.toList))))))):=
(bm ae 112 [a0] m (fn:=f112) (c:=aB f112) qh0 rfl).trans (by kernel_rfl)
theorem Qc (x1 x3 qP E8 BU:AV) (m:af) (K:KT):FP x1 x3 qP E8 BU m K=(ag .other .lss BU E8).bind fun v1=>aw v1 ((aH none qP BU).bind fun v2=>(aj none m v2).bind fun v3=>(aO false v3).bind fun v4=>(ag .other .lss v4 (.int .i64 1)).bind fun v5=>aw v5 (K .ret (GX (.bool false) m)) ((aO false v3).bind fun v6=>(ag .other .gtr v6 (.int .i64 64)).bind fun v7=>aw v7 (K .ret (GX (.bool false) m)) ((aO false v3).bind fun v8=>(dO none [v8]).bind fun v9=>(b8 none false 3 none 8 m x3 v9).bind fun hJ=>(ag .other .add BU (.int .i64 1)).bind fun v11=>FP x1 hJ.1 qP E8 v11 hJ.2 K))) (K (.exit 0) (Kx x1 x3 m)):=
(cg (bW _) _ _ _).trans (by kernel_rfl)
theorem qaF (x1 x3:AV) (m:af):Fi (aE ae.P f112.results.toList) (.exit 0) (Kx x1 x3 m)=(aT 0 x1).bind fun v1=>(aj none m v1).bind fun v2=>(aD (AP ae) none m 63 [x3,v2]).bind fun r3=>aw r3.1 ((aT 1 x1).bind fun v4=>(aj none r3.2 v4).bind fun v5=>(aD (AP ae) none r3.2 107 [x3,v5]).bind fun r6=>aw r6.1 ((aT 2 x1).bind fun v7=>(aj none r6.2 v7).bind fun v8=>(aD (AP ae) none r6.2 150 [v8,(.fn 151 [])]).bind fun r9=>(jN .not r9.1).bind fun v10=>some (v10,r9.2)) (some ((.bool false),r6.2))) (some ((.bool false),r3.2)):=by kernel_rfl
theorem qaE (x2:AV) (m:af):Fi (aE ae.P f112.results.toList) .ret (GX x2 m)=some (x2,m):=by kernel_rfl
def GL (x8 x9:AV) (m:af):St:=⟨(aW (x8::x9::bI (aM []))),m⟩
def zM (x0 x3 x5 x8 x9 bU cD iJ:AV) (m:af) (K:KT):OM:=ck 110 (b9 (c2 (c2 (c2 (aB f110))))) 7 (x0::aK (x3::aG (x5::aK (x8::x9::aW (aM (aG (bU::cD::iJ::bC (aM [])))))))) m K
abbrev qaA (K:KT):KT:=bE 110 (bo (aB f110)) K
abbrev qaB (K:KT):KT:=bz 0 (qaA K)
abbrev B6 (K:KT):KT:=(qaB K)
theorem RO (a0 a1 a2 a3:AV) (m:af):AC ae 110 [a0,a1,a2,a3] m=(dI none (some 3) m a1).bind fun r1=>(aT 0 r1.1).bind fun v2=>(aj none (az none r1.2 (.obj true [(.bool false),(.lst none true .full []),(.lst none true .full [])])).2 v2).bind fun v3=>(ag .other .lss v3 (.int .i64 0)).bind fun v4=>aw v4 ((aT 2 r1.1).bind fun v5=>(aj none (az none r1.2 (.obj true [(.bool false),(.lst none true .full []),(.lst none true .full [])])).2 v5).bind fun v6=>(ag .other .eql v6 a2).bind fun v7=>aw v7 ((aD (AP ae) none (az none r1.2 (.obj true [(.bool false),(.lst none true .full []),(.lst none true .full [])])).2 64 []).bind fun r8=>(aL (some 3) r8.2 (.ptr (az none r1.2 .resv).1 0) r8.1).bind fun m9=>(aj (some 3) m9 (.ptr (az none r1.2 .resv).1 0)).bind fun v10=>some (v10,m9)) ((aD (AP ae) none (az none r1.2 (.obj true [(.bool false),(.lst none true .full []),(.lst none true .full [])])).2 114 []).bind fun je=>(aL (some 3) je.2 (.ptr (az none r1.2 .resv).1 0) je.1).bind fun m12=>(aj (some 3) m12 (.ptr (az none r1.2 .resv).1 0)).bind fun bu=>some (bu,m12))) ((aD (AP ae) none (az none r1.2 (.obj true [(.bool false),(.lst none true .full []),(.lst none true .full [])])).2 114 []).bind fun jK=>(aL (some 3) (az none jK.2 (.obj true [(.bool false),(.lst none true .full []),(.lst none true .full [])])).2 (.ptr (az none jK.2 .resv).1 0) jK.1).bind fun m15=>(aT 1 r1.1).bind fun bT=>(aj none m15 bT).bind fun bH=>(aO false bH).bind fun fI=>zM a0 a3 r1.1 (.ptr (az none r1.2 .resv).1 0) (.ptr (az none jK.2 .resv).1 0) bH fI (.int .i64 0) m15 (B6 (aE ae.P f110.results.toList))):=
(bm ae 110 [a0,a1,a2,a3] m (fn:=f110) (c:=aB f110) qhZ rfl).trans (by kernel_rfl)
theorem FO (x0 x3 x5 x8 x9 bU cD iJ:AV) (m:af) (K:KT):zM x0 x3 x5 x8 x9 bU cD iJ m K=(ag .other .lss iJ cD).bind fun v1=>aw v1 ((aH none bU iJ).bind fun v2=>(aj none m v2).bind fun v3=>(aj (some 3) m x9).bind fun v4=>(aT 0 x5).bind fun v5=>(aj none m v5).bind fun v6=>(aH none x0 v6).bind fun v7=>(aj none m v7).bind fun v8=>(aD (AP ae) (some m.length) m 70 [v8,iJ]).bind fun r9=>(aH (some 3) x3 v3).bind fun v10=>(aj (some 3) r9.2 v10).bind fun v11=>(aD (AP ae) (some m.length) r9.2 69 [r9.1,v11]).bind fun kf=>(aD (AP ae) (some m.length) kf.2 71 [v4,kf.1]).bind fun fK=>(aL (some 3) fK.2 x9 fK.1).bind fun m14=>(ag .other .add iJ (.int .i64 1)).bind fun br=>zM x0 x3 x5 x8 x9 bU cD br m14 K) (K (.exit 0) (GL x8 x9 m)):=
(cg (bW _) _ _ _).trans (by kernel_rfl)
theorem PX (x8 x9:AV) (m:af):B6 (aE ae.P f110.results.toList) (.exit 0) (GL x8 x9 m)=(aj (some 3) m x9).bind fun v1=>(aL (some 3) m x8 v1).bind fun m2=>(aj (some 3) m2 x8).bind fun v3=>some (v3,m2):=by kernel_rfl
def GK (x1:AV) (m:af):St:=⟨(aG (x1::bA (bC (aW (aK []))))),m⟩
def tp (x4:AV) (m:af):St:=⟨(aM (x4::bA (bC (aM (aK (aG [])))))),m⟩
def ur (x0 x1 x9 aF aZ:AV) (m:af) (K:KT):OM:=ck 107 (b9 (c2 (aB f107))) 2 (x0::x1::aM (aK (aG (x9::aF::aZ::bA (bC []))))) m K
def GJ (x0 x1 x9 aF aZ:AV) (m:af):St:=⟨(x0::x1::aM (aK (aG (x9::aF::aZ::bA (bC []))))),m⟩
def CO (x4:AV) (m:af):St:=⟨(aM (x4::bA (bC (aM (aK (aG [])))))),m⟩
def xD (x0 x1 x5 x6 x9 aF aZ rL rM qi:AV) (m:af) (K:KT):OM:=ck 107 (uO (kY (kY (c2 (c1 (c2 (aB f107))))))) 10 (x0::x1::aK (aG (x5::x6::aK (x9::aF::aZ::bI (aW (aM (rL::rM::qi::bI (aG [])))))))) m K
abbrev qan (K:KT):KT:=bE 107 (c2 (c2 (aB f107))) K
abbrev qao (K:KT):KT:=bz 0 (qan K)
abbrev ti (K:KT):KT:=(qao K)
abbrev qak (K:KT):KT:=bE 107 (kZ (mD (aB f107))) (nQ 107 (b9 (c2 (aB f107))) 2 K)
abbrev qal (K:KT):KT:=bz 1 (qak K)
abbrev qam (K:KT):KT:=bz 2 (qal K)
abbrev zJ (K:KT):KT:=(qam K)
theorem RM (a0 a1:AV) (m:af):AC ae 107 [a0,a1] m=(aO false a1).bind fun v1=>ur a0 a1 a1 v1 (.int .i64 0) m (ti (aE ae.P f107.results.toList)):=
(bm ae 107 [a0,a1] m (fn:=f107) (c:=aB f107) qhV rfl).trans (by kernel_rfl)
theorem FN (x0 x1 x9 aF aZ:AV) (m:af) (K:KT):ur x0 x1 x9 aF aZ m K=(ag .other .lss aZ aF).bind fun v1=>aw v1 ((aH (some 3) x9 aZ).bind fun v2=>(aj (some 3) m v2).bind fun v3=>(aL (some 3) (az none m (.obj true [(.int .i64 0),(.lst none true .full []),(.int .i64 0)])).2 (.ptr (az none m .resv).1 0) v3).bind fun m4=>(aT 0 (.ptr (az none m .resv).1 0)).bind fun v5=>(aj none m4 v5).bind fun v6=>(ag .other .eql v6 (.int .i64 (-1))).bind fun v7=>aw v7 ((aT 1 (.ptr (az none m .resv).1 0)).bind fun v8=>(aj none m4 v8).bind fun v9=>(aO false v9).bind fun v10=>(ag .other .gtr v10 (.int .i64 0)).bind fun v11=>aw v11 (K .ret (tp (.bool false) m4)) ((aT 2 (.ptr (az none m .resv).1 0)).bind fun v12=>(aj none m4 v12).bind fun bu=>(aD (AP ae) none m4 94 [bu]).bind fun jK=>(jN .not jK.1).bind fun br=>aw br (K .ret (tp (.bool false) jK.2)) ((ag .other .add aZ (.int .i64 1)).bind fun bT=>ur x0 x1 x9 aF bT jK.2 K))) ((aT 0 (.ptr (az none m .resv).1 0)).bind fun bH=>(aj none m4 bH).bind fun fI=>(ag .other .lss fI (.int .i64 0)).bind fun dG=>aw dG (K .ret (tp (.bool false) m4)) ((aT 0 (.ptr (az none m .resv).1 0)).bind fun v20=>(aj none m4 v20).bind fun v21=>(aO false x0).bind fun v22=>(ag .other .geq v21 v22).bind fun v23=>aw v23 (K .ret (tp (.bool false) m4)) ((aT 2 (.ptr (az none m .resv).1 0)).bind fun v24=>(aj none m4 v24).bind fun v25=>(ag .other .neq v25 (.int .i64 0)).bind fun v26=>aw v26 (K .ret (tp (.bool false) m4)) ((aT 1 (.ptr (az none m .resv).1 0)).bind fun kh=>(aj none m4 kh).bind fun v28=>(aO false v28).bind fun kR=>(aT 0 (.ptr (az none m .resv).1 0)).bind fun v30=>(aj none m4 v30).bind fun v31=>(aH none x0 v31).bind fun mR=>(aj none m4 mR).bind fun pQ=>(ag .other .neq kR pQ).bind fun qO=>aw qO (K .ret (tp (.bool false) m4)) ((aT 1 (.ptr (az none m .resv).1 0)).bind fun nw=>(aj none m4 nw).bind fun vI=>(aO false vI).bind fun v37=>xD x0 x1 aZ (.ptr (az none m .resv).1 0) x9 aF aZ vI v37 (.int .i64 0) m4 (zJ K))))))) (K (.exit 0) (GK x1 m)):=
(cg (bW _) _ _ _).trans (by kernel_rfl)
theorem FM (x0 x1 x5 x6 x9 aF aZ rL rM qi:AV) (m:af) (K:KT):xD x0 x1 x5 x6 x9 aF aZ rL rM qi m K=(ag .other .lss qi rM).bind fun v1=>aw v1 ((aH none rL qi).bind fun v2=>(aj none m v2).bind fun v3=>(ag .other .lss v3 (.int .i64 0)).bind fun v4=>aw v4 (K .ret (CO (.bool false) m)) ((ag .other .geq v3 x5).bind fun v5=>aw v5 (K .ret (CO (.bool false) m)) ((aH (some 3) x1 v3).bind fun v6=>(aT 0 v6).bind fun v7=>(aj none m v7).bind fun v8=>(ag .other .geq v8 (.int .i64 0)).bind fun v9=>aw v9 ((aH (some 3) x1 v3).bind fun v10=>(aT 0 v10).bind fun v11=>(aj none m v11).bind fun v12=>(aT 0 x6).bind fun bu=>(aj none m bu).bind fun bq=>(ag .other .leq v12 bq).bind fun br=>aw br (K .ret (CO (.bool false) m)) ((ag .other .add qi (.int .i64 1)).bind fun bT=>xD x0 x1 x5 x6 x9 aF aZ rL rM bT m K)) ((ag .other .add qi (.int .i64 1)).bind fun bH=>xD x0 x1 x5 x6 x9 aF aZ rL rM bH m K)))) (K (.exit 2) (GJ x0 x1 x9 aF aZ m)):=
(cg (bW _) _ _ _).trans (by kernel_rfl)
theorem PW (x1:AV) (m:af):ti (aE ae.P f107.results.toList) (.exit 0) (GK x1 m)=(aO false x1).bind fun v1=>(ag .other .gtr v1 (.int .i64 0)).bind fun v2=>some (v2,m):=by kernel_rfl
theorem tj (x4:AV) (m:af):ti (aE ae.P f107.results.toList) .ret (tp x4 m)=some (x4,m):=by kernel_rfl
theorem PV (x0 x1 x9 aF aZ:AV) (m:af) (K:KT):zJ K (.exit 2) (GJ x0 x1 x9 aF aZ m)=(ag .other .add aZ (.int .i64 1)).bind fun v1=>ur x0 x1 x9 aF v1 m K:=by kernel_rfl
theorem Fg (x4:AV) (m:af) (K:KT):zJ K .ret (CO x4 m)=K .ret (tp x4 m):=by kernel_rfl
theorem qf3 (a0 a1:AV) (m:af):AC ae 150 [a0,a1] m=(aD (AP ae) none m 180 [a0,a1]).bind fun r1=>(ag .other .geq r1.1 (.int .i64 0)).bind fun v2=>some (v2,r1.2):=
(bm ae 150 [a0,a1] m (fn:=f150) (c:=aB f150) qiv rfl).trans (by kernel_rfl)
theorem qf4 (a0:AV) (m:af):AC ae 151 [a0] m=(dI none (some 3) m a0).bind fun r1=>(aj (some 3) r1.2 r1.1).bind fun v2=>(aD (AP ae) none r1.2 152 [v2]).bind fun r3=>(jN .not r3.1).bind fun v4=>some (v4,r3.2):=
(bm ae 151 [a0] m (fn:=f151) (c:=aB f151) qiw rfl).trans (by kernel_rfl)
def CL (m:af):St:=⟨(bC (aK (aG []))),m⟩
def Ao (x4:AV) (m:af):St:=⟨(aM (x4::aW (aM (aK [])))),m⟩
def zU (x0 x1 x7 x8:AV) (m:af) (K:KT):OM:=ck 180 (b9 (c2 (aB f180))) 2 (x0::x1::aM (aG (x7::x8::aW (aK [])))) m K
abbrev qcN (K:KT):KT:=bE 180 (c2 (c2 (aB f180))) K
abbrev qcO (K:KT):KT:=bz 0 (qcN K)
abbrev Fu (K:KT):KT:=(qcO K)
theorem RY (a0 a1:AV) (m:af):AC ae 180 [a0,a1] m=(aO false a0).bind fun v1=>zU a0 a1 v1 (.int .i64 0) m (Fu (aE ae.P f180.results.toList)):=
(bm ae 180 [a0,a1] m (fn:=f180) (c:=aB f180) qiP rfl).trans (by kernel_rfl)
theorem QJ (x0 x1 x7 x8:AV) (m:af) (K:KT):zU x0 x1 x7 x8 m K=(ag .other .lss x8 x7).bind fun v1=>aw v1 ((aH (some 3) x0 x8).bind fun v2=>(aj (some 3) m v2).bind fun v3=>(lH x1).bind fun g4=>j0 ae 180 (AP ae) (AC ae) none g4.1 ([v3]++g4.2) m fun v5 m6=>aw v5 (K .ret (Ao x8 m6)) ((ag .other .add x8 (.int .i64 1)).bind fun v7=>zU x0 x1 x7 v7 m6 K)) (K (.exit 0) (CL m)):=
(cg (bW _) _ _ _).trans (by kernel_rfl)
theorem qcQ (m:af):Fu (aE ae.P f180.results.toList) (.exit 0) (CL  m)=some ((.int .i64 (-1)),m):=by kernel_rfl
theorem qcP (x4:AV) (m:af):Fu (aE ae.P f180.results.toList) .ret (Ao x4 m)=some (x4,m):=by kernel_rfl
def K7 (x1 x2:AV) (m:af):St:=⟨(aG (x1::x2::bI (aW (aM [])))),m⟩
def G1 (x2 x3 x4:AV) (m:af):St:=⟨(aK (x2::x3::x4::bI (aW (aK [])))),m⟩
def zX (x1 x2 aN aX aV:AV) (m:af) (K:KT):OM:=ck 53 (b9 (c2 (c2 (aB f53)))) 4 (aG (x1::x2::aW (aG (aN::aX::aV::bI [])))) m K
abbrev qd5 (K:KT):KT:=bE 53 (c2 (c2 (c2 (aB f53)))) K
abbrev qd6 (K:KT):KT:=bz 0 (qd5 K)
abbrev FE (K:KT):KT:=(qd6 K)
theorem T53 (a0:AV) (m:af):AC ae 53 [a0] m=(dI none (some 4) m a0).bind fun r1=>(aj (some 4) (az none r1.2 (.obj true [(.bool false),(.lst none true .full []),(.lst none true .full [])])).2 r1.1).bind fun v2=>(aD (AP ae) none (az none r1.2 (.obj true [(.bool false),(.lst none true .full []),(.lst none true .full [])])).2 112 [v2]).bind fun r3=>(jN .not r3.1).bind fun v4=>aw v4 ((gm (.agg [(.bool false),(.lst none true .full []),(.lst none true .full [])]) []).bind fun v5=>(aL (some 3) r3.2 (.ptr (az none r1.2 .resv).1 0) v5).bind fun m6=>(aj (some 3) m6 (.ptr (az none r1.2 .resv).1 0)).bind fun v7=>some ((.tup [v7,(.int .i64 0),(.int .i64 1)]),m6)) ((aT 1 r1.1).bind fun v8=>(aj none r3.2 v8).bind fun v9=>(aO false v9).bind fun v10=>zX r1.1 (.ptr (az none r1.2 .resv).1 0) v9 v10 (.int .i64 0) r3.2 (FE (aE ae.P f53.results.toList))):=
(bm ae 53 [a0] m (fn:=f53) (c:=aB f53) qjh rfl).trans (by kernel_rfl)
theorem Q1 (x1 x2 aN aX aV:AV) (m:af) (K:KT):zX x1 x2 aN aX aV m K=(ag .other .lss aV aX).bind fun v1=>aw v1 ((aH (some 3) aN aV).bind fun v2=>(aj (some 3) m v2).bind fun v3=>(aL (some 3) (az none m (.obj true [(.int .i64 0),(.lst none true .full []),(.int .i64 0)])).2 (.ptr (az none m .resv).1 0) v3).bind fun m4=>(aT 2 x1).bind fun v5=>(aj none m4 v5).bind fun v6=>(aH (some 3) v6 aV).bind fun v7=>(aj (some 3) m4 v7).bind fun v8=>(aT 0 x1).bind fun v9=>(aj none m4 v9).bind fun v10=>(aj (some 3) m4 (.ptr (az none m .resv).1 0)).bind fun v11=>(aT 3 x1).bind fun v12=>(aj none m4 v12).bind fun bu=>(aT 2 x1).bind fun bq=>(aj none m4 bq).bind fun br=>(aD (AP ae) (some m4.length) m4 110 [v10,v11,bu,br]).bind fun hZ=>(aD (AP ae) (some m4.length) hZ.2 113 [v8,hZ.1]).bind fun vE=>(jN .not vE.1).bind fun fI=>aw fI ((gm (.agg [(.bool false),(.lst none true .full []),(.lst none true .full [])]) []).bind fun dG=>(aL (some 3) vE.2 x2 dG).bind fun m20=>K .ret (G1 x2 aV (.int .i64 32) m20)) ((ag .other .add aV (.int .i64 1)).bind fun v21=>zX x1 x2 aN aX v21 vE.2 K)) (K (.exit 0) (K7 x1 x2 m)):=
(cg (bW _) _ _ _).trans (by kernel_rfl)
theorem qd8 (x1 x2:AV) (m:af):FE (aE ae.P f53.results.toList) (.exit 0) (K7 x1 x2 m)=(aT 2 x1).bind fun v1=>(aj none m v1).bind fun v2=>(aT 2 x1).bind fun v3=>(aj none m v3).bind fun v4=>(aO false v4).bind fun v5=>(ag .other .sub v5 (.int .i64 1)).bind fun v6=>(aH (some 3) v2 v6).bind fun v7=>(aj (some 3) m v7).bind fun v8=>(aD (AP ae) (some m.length) m 114 []).bind fun r9=>(aD (AP ae) (some m.length) r9.2 71 [v8,r9.1]).bind fun hJ=>(aL (some 3) hJ.2 x2 hJ.1).bind fun m11=>(aj (some 3) m11 x2).bind fun v12=>some ((.tup [v12,(.int .i64 0),(.int .i64 0)]),m11):=by kernel_rfl
theorem qd7 (x2 x3 x4:AV) (m:af):FE (aE ae.P f53.results.toList) .ret (G1 x2 x3 x4 m)=(aj (some 3) m x2).bind fun v1=>some ((.tup [v1,x3,x4]),m):=by kernel_rfl
end
end Go.Ab
namespace Go.Ab
noncomputable section
open Go.Proofs.Tryz
def La (m:af):St:=⟨(bI (bC (aK []))),m⟩
def CQ (x4:AV) (m:af):St:=⟨(aM (x4::bI (aW (aM (aG []))))),m⟩
def Gv (x0 bL be cw:AV) (m:af) (K:KT):OM:=ck 63 (b9 (c2 (c2 (aB f63)))) 4 (x0::aW (aM (aK (bL::be::cw::bI [])))) m K
def Lb (x0 x5 x6 x7 bL be cw:AV) (m:af):St:=⟨(x0::aM (x5::x6::x7::aM (aK (aG (bL::be::cw::bI []))))),m⟩
def G2 (x4:AV) (m:af):St:=⟨(aM (x4::bI (aW (aM (aG []))))),m⟩
def Gw (x0 x5 x6 x7 bL be cw bQ bU cD:AV) (m:af) (K:KT):OM:=ck 63 (b9 (kY (kY (pE (aB f63))))) 8 (x0::aM (x5::x6::x7::aM (aK (aG (bL::be::cw::aM (bQ::bU::cD::bC (aW (aG [])))))))) m K
abbrev qen (K:KT):KT:=bE 63 (c2 (c2 (c2 (aB f63)))) K
abbrev qeo (K:KT):KT:=bz 0 (qen K)
abbrev Ki (K:KT):KT:=(qeo K)
abbrev qer (K:KT):KT:=bE 63 (kZ (mD (c2 (aB f63)))) (nQ 63 (b9 (c2 (c2 (aB f63)))) 4 K)
abbrev qes (K:KT):KT:=bz 1 (qer K)
abbrev qet (K:KT):KT:=bE 63 (kZ (yb (mD (c2 (aB f63))))) (qes K)
abbrev qeu (K:KT):KT:=bz 2 (qet K)
abbrev FH (K:KT):KT:=(qeu K)
theorem T63 (a0 a1:AV) (m:af):AC ae 63 [a0,a1] m=(aO false a1).bind fun v1=>(aO false a0).bind fun v2=>(ag .other .neq v1 v2).bind fun v3=>aw v3 (some ((.bool false),m)) ((aO false a1).bind fun v4=>Gv a0 a1 v4 (.int .i64 0) m (Ki (aE ae.P f63.results.toList))):=
(bm ae 63 [a0,a1] m (fn:=f63) (c:=aB f63) qjm rfl).trans (by kernel_rfl)
theorem Q6 (x0 bL be cw:AV) (m:af) (K:KT):Gv x0 bL be cw m K=(ag .other .lss cw be).bind fun v1=>aw v1 ((aH none bL cw).bind fun v2=>(aj none m v2).bind fun v3=>(aO false v3).bind fun v4=>Gw x0 cw v3 (.int .i64 0) bL be cw v3 v4 (.int .i64 0) m (FH K)) (K (.exit 0) (La m)):=
(cg (bW _) _ _ _).trans (by kernel_rfl)
theorem Q7 (x0 x5 x6 x7 bL be cw bQ bU cD:AV) (m:af) (K:KT):Gw x0 x5 x6 x7 bL be cw bQ bU cD m K=(ag .other .lss cD bU).bind fun v1=>aw v1 ((aH none bQ cD).bind fun v2=>(aj none m v2).bind fun v3=>(ag .other .lss v3 (.int .i64 0)).bind fun v4=>aw v4 (K .ret (G2 (.bool false) m)) ((ag .other .gtr v3 (.int .i64 1000)).bind fun v5=>aw v5 (K .ret (G2 (.bool false) m)) ((ag .other .add x7 v3).bind fun v6=>(ag .other .add cD (.int .i64 1)).bind fun v7=>Gw x0 x5 x6 v6 bL be cw bQ bU v7 m K))) (K (.exit 2) (Lb x0 x5 x6 x7 bL be cw m)):=
(cg (bW _) _ _ _).trans (by kernel_rfl)
theorem qeq (m:af):Ki (aE ae.P f63.results.toList) (.exit 0) (La  m)=some ((.bool true),m):=by kernel_rfl
theorem qep (x4:AV) (m:af):Ki (aE ae.P f63.results.toList) .ret (CQ x4 m)=some (x4,m):=by kernel_rfl
theorem qew (x0 x5 x6 x7 bL be cw:AV) (m:af) (K:KT):FH K (.exit 2) (Lb x0 x5 x6 x7 bL be cw m)=(aO false x6).bind fun v1=>(aH none x0 x5).bind fun v2=>(aj none m v2).bind fun v3=>(ag .other .neq v1 v3).bind fun v4=>aw v4 (K .ret (CQ (.bool false) m)) ((ag .other .eql x7 (.int .i64 0)).bind fun v5=>aw v5 (K .ret (CQ (.bool false) m)) ((ag .other .add cw (.int .i64 1)).bind fun v6=>Gv x0 bL be v6 m K)):=by kernel_rfl
theorem qev (x4:AV) (m:af) (K:KT):FH K .ret (G2 x4 m)=K .ret (CQ x4 m):=by kernel_rfl
def Lc (x0 x1 x4 x5:AV) (m:af):St:=⟨(x0::x1::aK (x4::x5::bC (aW []))),m⟩
def Gx (x0 x1 x4 x5 aF aZ aN:AV) (m:af) (K:KT):OM:=ck 70 (b9 (c2 (c2 (aB f70)))) 3 (x0::x1::aK (x4::x5::aM (aF::aZ::aN::bC (aG [])))) m K
abbrev qex (K:KT):KT:=bE 70 (c2 (c2 (c2 (aB f70)))) K
abbrev qey (K:KT):KT:=bz 0 (qex K)
abbrev Kj (K:KT):KT:=(qey K)
theorem T70 (a0 a1:AV) (m:af):AC ae 70 [a0,a1] m=(aO false a0).bind fun v1=>Gx a0 a1 (.ptr (az none m .resv).1 0) (.int .i64 0) a0 v1 (.int .i64 0) (az none m (.obj true [(.bool false),au,au])).2 (Kj (aE ae.P f70.results.toList)):=
(bm ae 70 [a0,a1] m (fn:=f70) (c:=aB f70) qjt rfl).trans (by kernel_rfl)
theorem Q8 (x0 x1 x4 x5 aF aZ aN:AV) (m:af) (K:KT):Gx x0 x1 x4 x5 aF aZ aN m K=(ag .other .lss aN aZ).bind fun v1=>aw v1 ((aH none aF aN).bind fun v2=>(aj none m v2).bind fun v3=>(ag .other .add x5 v3).bind fun v4=>(ag .other .add aN (.int .i64 1)).bind fun v5=>Gx x0 x1 x4 v4 aF aZ v5 m K) (K (.exit 0) (Lc x0 x1 x4 x5 m)):=
(cg (bW _) _ _ _).trans (by kernel_rfl)
theorem qez (x0 x1 x4 x5:AV) (m:af):Kj (aE ae.P f70.results.toList) (.exit 0) (Lc x0 x1 x4 x5 m)=(aH none x0 x1).bind fun v1=>(aj none m v1).bind fun v2=>(aD (AP ae) none m 128 [v2,x5]).bind fun r3=>(aY r3.1 0).bind fun v4=>(aY r3.1 1).bind fun v5=>(aL (some 3) (az none r3.2 (.obj true [(.bool false),au,au])).2 (.ptr (az none r3.2 .resv).1 0) v4).bind fun m6=>(aj (some 3) m6 (.ptr (az none r3.2 .resv).1 0)).bind fun v7=>(aL (some 3) m6 x4 v7).bind fun m8=>(aj (some 3) m8 x4).bind fun v9=>some (v9,m8):=by kernel_rfl
theorem T67 (a0 a1 a2:AV) (m:af):AC ae 67 [a0,a1,a2] m=(aj none m a2).bind fun v1=>(aj none m a2).bind fun v2=>(AC ae 68 [v1,a0] m).bind fun r3=>tW ((aj none r3.2 a2).bind (fun v=>some (v,r3.2))=some (v2,r3.2)) ((AC ae 68 [v2,a1] r3.2).bind fun r4=>(ag .other .sub r3.1 r4.1).bind fun v5=>some (v5,r4.2)):=
(bm ae 67 [a0,a1,a2] m (fn:=f67) (c:=aB f67) qjq rfl).trans (by kernel_rfl)
def KQ (x8 aN:AV) (m:af):St:=⟨(aW (x8::aK (aG (aN::bA (bI (aW (aM (aK [])))))))),m⟩
def zT (x2 x3 x8 aF aN ki km jW:AV) (m:af) (K:KT):OM:=ck 17 (b9 (bo (bo (aB f17)))) 11 (aK (x2::x3::aM (x8::aG (aF::aG (aN::bI (aM (aK (aG (ki::km::jW::bA (aM [])))))))))) m K
def GU (x2 x3 x8 aF aN ki km jW:AV) (m:af):St:=⟨(aK (x2::x3::aM (x8::aG (aF::aG (aN::bI (aM (aK (aG (ki::km::jW::bA (aM [])))))))))),m⟩
def qm (x2 x3 x8 aF aN bL be ki km jW BY BZ xq:AV) (m:af) (K:KT):OM:=ck 17 (uO (kY (kY (pE (bo (c2 (c2 (aB f17)))))))) 17 (aK (x2::x3::aM (x8::aG (aF::aG (aN::aK (bL::be::bI (aK (aG (ki::km::jW::bC (aM (aG (BY::BZ::xq::bI (aW (aM [])))))))))))))) m K
def KR (bQ:AV) (m:af):St:=⟨(bC (aM (aK (bQ::bA (bI (aM [])))))),m⟩
def Cj (aN bQ E2 E3 BR:AV) (m:af) (K:KT):OM:=ck 17 (b9 (bo (bo (c2 (c2 (aB f17)))))) 28 (aW (aM (aN::aW (aG (bQ::bA (bC (aM (E2::E3::BR::aW (aM (aG [])))))))))) m K
abbrev qcE (K:KT):KT:=bE 17 (bo (bo (c2 (aB f17)))) K
abbrev qcF (K:KT):KT:=bz 0 (qcE K)
abbrev Fs (K:KT):KT:=(qcF K)
abbrev qcH (K:KT):KT:=bE 17 (kZ (mD (bo (c2 (c2 (c2 (aB f17))))))) (nQ 17 (b9 (bo (bo (aB f17)))) 11 K)
abbrev qcI (K:KT):KT:=bz 1 (qcH K)
abbrev qcJ (K:KT):KT:=bz 2 (qcI K)
abbrev xC (K:KT):KT:=(qcJ K)
abbrev qcK (K:KT):KT:=bE 17 (bo (bo (c2 (c2 (c2 (aB f17)))))) K
abbrev qcL (K:KT):KT:=bz 4 (qcK K)
abbrev Ft (K:KT):KT:=(qcL K)
theorem T17 (a0 a1 a2:AV) (m:af):AC ae 17 [a0,a1,a2] m=(dI none none m a0).bind fun r1=>(aj none r1.2 r1.1).bind fun v2=>(AC ae 41 [v2,a1] r1.2).bind fun r3=>(aY r3.1 0).bind fun v4=>(aY r3.1 1).bind fun v5=>(ag .other .neq v5 (.int .i64 0)).bind fun v6=>aw v6 (some ((.tup [au,v5]),r3.2)) ((aj none r3.2 r1.1).bind fun v7=>(iG v7).bind fun v8=>(aT 0 v8).bind fun v9=>(aj none r3.2 v9).bind fun v10=>(aD (AP ae) none r3.2 63 [v10,a2]).bind fun je=>(jN .not je.1).bind fun v12=>aw v12 (some ((.tup [au,(.int .i64 1)]),je.2)) ((aD (AP ae) none (az none je.2 (.mp (.int .i64) [])).2 64 []).bind fun fK=>(kQ (.int .i64) fK.2 (.mref (az none je.2 .resv).1) a1 fK.1).bind fun m14=>(aj none m14 r1.1).bind fun br=>(AC ae 65 [br,a1] m14).bind fun hZ=>(AC ae 66 [hZ.1,(.fn 67 [r1.1])] hZ.2).bind fun vE=>(aO false hZ.1).bind fun fI=>zT a2 r1.1 v4 (.mref (az none je.2 .resv).1) (.mref (az none vE.2 .resv).1) hZ.1 fI (.int .i64 0) (az none vE.2 (.mp (.int .i64) [])).2 (Fs (aE ae.P f17.results.toList)))):=
(bm ae 17 [a0,a1,a2] m (fn:=f17) (c:=aB f17) qiK rfl).trans (by kernel_rfl)
theorem QH (x2 x3 x8 aF aN ki km jW:AV) (m:af) (K:KT):zT x2 x3 x8 aF aN ki km jW m K=(ag .other .lss jW km).bind fun v1=>aw v1 ((aH none ki jW).bind fun v2=>(aj none m v2).bind fun v3=>(aj none (cU m 2) x3).bind fun v4=>(iG v4).bind fun v5=>(aT 1 v5).bind fun v6=>(aj none (cU m 2) v6).bind fun v7=>(aH (some 3) v7 v3).bind fun v8=>(aj (some 3) (cU m 2) v8).bind fun v9=>(o8 (.int .i64) (.agg [(.bool false),au,au]) (cU m 2) aF v3).bind fun q10=>(aL (some 3) (az (some (m.length+1)) (az (some m.length) (cU m 2) (.obj true [(.int .i64 0),au,(.int .i64 0)])).2 (.obj true [(.bool false),au,au])).2 (.ptr (az (some m.length) (cU m 2) .resv).1 0) v9).bind fun m11=>(aL (some 3) m11 (.ptr (az (some (m.length+1)) (az (some m.length) (cU m 2) (.obj true [(.int .i64 0),au,(.int .i64 0)])).2 .resv).1 0) q10.1).bind fun m12=>(aT 0 (.ptr (az (some m.length) (cU m 2) .resv).1 0)).bind fun bu=>(aj none m12 bu).bind fun bq=>(ag .other .lss bq (.int .i64 0)).bind fun br=>aw br ((aT 2 (.ptr (az (some m.length) (cU m 2) .resv).1 0)).bind fun bT=>(aj none m12 bT).bind fun bH=>(aj (some 3) m12 (.ptr (az (some (m.length+1)) (az (some m.length) (cU m 2) (.obj true [(.int .i64 0),au,(.int .i64 0)])).2 .resv).1 0)).bind fun fI=>(kQ (.int .i64) m12 aN bH fI).bind fun m19=>(aT 1 (.ptr (az (some m.length) (cU m 2) .resv).1 0)).bind fun v20=>(aj none m19 v20).bind fun v21=>(aO false v21).bind fun v22=>qm x2 x3 x8 aF aN (.ptr (az (some m.length) (cU m 2) .resv).1 0) (.ptr (az (some (m.length+1)) (az (some m.length) (cU m 2) (.obj true [(.int .i64 0),au,(.int .i64 0)])).2 .resv).1 0) ki km jW v21 v22 (.int .i64 0) m19 (xC K)) ((aT 1 (.ptr (az (some m.length) (cU m 2) .resv).1 0)).bind fun v23=>(aj none m12 v23).bind fun v24=>(aO false v24).bind fun v25=>qm x2 x3 x8 aF aN (.ptr (az (some m.length) (cU m 2) .resv).1 0) (.ptr (az (some (m.length+1)) (az (some m.length) (cU m 2) (.obj true [(.int .i64 0),au,(.int .i64 0)])).2 .resv).1 0) ki km jW v24 v25 (.int .i64 0) m12 (xC K))) (K (.exit 0) (KQ x8 aN m)):=
(cg (bW _) _ _ _).trans (by kernel_rfl)
theorem Kq (x2 x3 x8 aF aN bL be ki km jW BY BZ xq:AV) (m:af) (K:KT):qm x2 x3 x8 aF aN bL be ki km jW BY BZ xq m K=(ag .other .lss xq BZ).bind fun v1=>aw v1 ((aH none BY xq).bind fun v2=>(aj none m v2).bind fun v3=>(aj (some 3) (cU m 1) be).bind fun v4=>(aT 0 bL).bind fun v5=>(aj none (cU m 1) v5).bind fun v6=>(aH none x2 v6).bind fun v7=>(aj none (cU m 1) v7).bind fun v8=>(aD (AP ae) (some m.length) (cU m 1) 70 [v8,xq]).bind fun r9=>(aD (AP ae) (some m.length) r9.2 69 [v4,r9.1]).bind fun hJ=>(aL (some 3) (az (some m.length) hJ.2 (.obj true [(.bool false),au,au])).2 (.ptr (az (some m.length) hJ.2 .resv).1 0) hJ.1).bind fun m11=>(o8 (.int .i64) (.agg [(.bool false),au,au]) m11 aF v3).bind fun q12=>(aY (.tup [q12.1,.bool q12.2]) 0).bind fun bu=>(aY (.tup [q12.1,.bool q12.2]) 1).bind fun bq=>(aL (some 3) (az none m11 (.obj true [(.bool false),au,au])).2 (.ptr (az none m11 .resv).1 0) bu).bind fun m15=>aw bq ((aj (some 3) m15 (.ptr (az none m11 .resv).1 0)).bind fun bT=>(aj (some 3) m15 (.ptr (az (some m.length) hJ.2 .resv).1 0)).bind fun bH=>(aD (AP ae) none m15 71 [bT,bH]).bind fun gD=>(aL (some 3) gD.2 (.ptr (az (some m.length) hJ.2 .resv).1 0) gD.1).bind fun m19=>(aj (some 3) m19 (.ptr (az (some m.length) hJ.2 .resv).1 0)).bind fun v20=>(kQ (.int .i64) m19 aF v3 v20).bind fun m21=>(ag .other .add xq (.int .i64 1)).bind fun v22=>qm x2 x3 x8 aF aN bL be ki km jW BY BZ v22 m21 K) ((aj (some 3) m15 (.ptr (az (some m.length) hJ.2 .resv).1 0)).bind fun v23=>(kQ (.int .i64) m15 aF v3 v23).bind fun m24=>(ag .other .add xq (.int .i64 1)).bind fun v25=>qm x2 x3 x8 aF aN bL be ki km jW BY BZ v25 m24 K)) (K (.exit 2) (GU x2 x3 x8 aF aN ki km jW m)):=
(cg (bW _) _ _ _).trans (by kernel_rfl)
theorem QI (aN bQ E2 E3 BR:AV) (m:af) (K:KT):Cj aN bQ E2 E3 BR m K=(ag .other .lss BR E3).bind fun v1=>aw v1 ((aH none E2 BR).bind fun v2=>(aj none m v2).bind fun v3=>(o8 (.int .i64) (.agg [(.bool false),au,au]) m aN v3).bind fun q4=>(gm (.agg [(.int .i64 0),(.bool false),au,au]) [(0,none,v3),(1,(some 3),q4.1)]).bind fun v5=>(dO (some 4) [v5]).bind fun v6=>(b8 none false 46 (some 4) 64 m bQ v6).bind fun r7=>(ag .other .add BR (.int .i64 1)).bind fun v8=>Cj aN r7.1 E2 E3 v8 r7.2 K) (K (.exit 4) (KR bQ m)):=
(cg (bW _) _ _ _).trans (by kernel_rfl)
theorem qcG (x8 aN:AV) (m:af):Fs (aE ae.P f17.results.toList) (.exit 0) (KQ x8 aN m)=(aO false x8).bind fun v1=>Cj aN au x8 v1 (.int .i64 0) m (Ft (aE ae.P f17.results.toList)):=by kernel_rfl
theorem P4 (x2 x3 x8 aF aN ki km jW:AV) (m:af) (K:KT):xC K (.exit 2) (GU x2 x3 x8 aF aN ki km jW m)=(ag .other .add jW (.int .i64 1)).bind fun v1=>zT x2 x3 x8 aF aN ki km v1 m K:=by kernel_rfl
theorem qcM (bQ:AV) (m:af):Ft (aE ae.P f17.results.toList) (.exit 4) (KR bQ m)=some ((.tup [bQ,(.int .i64 0)]),m):=by kernel_rfl
end
end Go.Ab
namespace Go.Ab
noncomputable section
open Go.Proofs.Tryz
end
end Go.Ab
