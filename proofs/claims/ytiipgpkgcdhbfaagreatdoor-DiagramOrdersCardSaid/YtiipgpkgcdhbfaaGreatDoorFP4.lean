/- What the functions of nat compute. -/
import Derived.Test.YtiipgpkgcdhbfaaGreatDoorFP3
import Derived.Test.YtiipgpkgcdhbfaaGreatDoorFP2
set_option maxRecDepth 100000
set_option linter.unusedVariables false
set_option linter.unusedSimpArgs false
set_option linter.unusedSectionVars false
namespace Go.Ab
open Go.Proofs.Tryz
theorem TC(x:NV)(m:af)(K:KT):∀n:Nat,n<=x.ds.length->x.ds.length<2^62->xB x.av (.I n) m K=K (.exit 0) (yu x.av (.I (ja x.ds n)) m):=by
 intro n
 induction n with
 | zero=>
  intro _ _;rw[Gk];simp[gI,au,ja]
 | succ n ih=>
  intro hn hl;have ih:=ih Z hl;rw[Gk];have h1:((n+1:Nat):Int)>0:=Z;have h2:IntKind.wrap .i64 (((n+1:Nat):Int)-1)=n:=by rw[gz]<;>omega
  simp only[gI,O,az,ai h1,mh,h2];rw[NV.av,pw Z Z];simp only[O,cr,dg,ik,az,cB];rw[ja]
  by_cases h:x.ds.getD n 0=0
  .rw[ai Z,ai h];exact ih
  .rw[ag Z,ag h]
theorem UD(x:NV)(m:af)(hl:x.ds.length<2^62):AC aa 164 [x.av] m=some (NV.av ⟨x.z,.no,tr x.ds⟩,m):=by
 rw[UC];simp only[NV.av,jX,O,bA];have:=TC x m (Ba (aD f164)) x.ds.length (aI _) hl;rw[NV.av] at this;rw[this,PU,MI Z (by have:=wh x.ds x.ds.length;omega)];simp[tr]
theorem nt(x:NV)(hl:x.ds.length<2^62):AP aa 164 [x.av]=some (NV.av ⟨x.z,.no,tr x.ds⟩):=
 fH (UD x [] hl) (bT _ _) (by simp[lp])
theorem TA(x y:NV)(m:af)(K:KT)(hl:x.ds.length<2^62):∀n:Nat,n<=x.ds.length->n<=y.ds.length ->
  xn x.av y.av (.I ((n:Int)-1)) m K=if jr x.ds y.ds n=0 then K (.exit 1) (BU m) else K .ret (yC (.I (jr x.ds y.ds n)) m):=by
 intro n
 induction n with
 | zero=>
  intro _ _;rw[Ga];simp[je,au,jr]
 | succ n ih=>
  intro hx hy;have ih:=ih Z Z;rw[Ga];have h1:((n+1:Nat):Int)-1=n:=Z;have h0:(n:Int)≥0:=Z;have h2:IntKind.wrap .i64 ((n:Int)-1)=(n:Int)-1:=by rw[gz]<;>omega
  simp only[h1,je,O,az,ai h0];simp only[NV.av] at ih ⊢;rw[pw Z Z,pw Z Z];simp only[O,cr,dg,bg,gI,az,cB,mh,h2];rw[jr]
  by_cases h:x.ds.getD n 0<y.ds.getD n 0
  .rw[ai Z,ai h]
   rfl
  .rw[ag Z,ag h]
   by_cases h':x.ds.getD n 0>y.ds.getD n 0
   .rw[ai Z,ai h']
    rfl
   .rw[ag Z,ag h'];exact ih
theorem Uo(x y:NV)(m:af)(hx:x.ds.length<2^62)(hy:y.ds.length<2^62):AC aa 131 [x.av,y.av] m=some (.I (ph (tr x.ds) (tr y.ds)),m):=by
 have ha:(tr x.ds).length<2^62:=by simp only[tr,iu];omega
 rw[Un,b8 (bT x),nt x.fr hx];simp only[aP,O,b8 (bT y),nt y.fr hy];simp only[NV.av,jX,bA,O,bg,gI,az,mh,NV.fr];unfold ph
 by_cases h:(tr x.ds).length<(tr y.ds).length
 .rw[ai Z,ai h]
 .rw[ag Z,ag h]
  by_cases h':(tr x.ds).length>(tr y.ds).length
  .rw[ai Z,ai h']
  .rw[ag Z,ag h',gz Z Z];have:=TA ⟨x.z,.no,tr x.ds⟩ ⟨y.z,.no,tr y.ds⟩ m (wL (aD f131)) ha (tr x.ds).length (aI _) (by simp only;omega);simp only[NV.av] at this;rw[this,Ph,Pg]
   split
   .rename_i h0;rw[h0]
   .rfl
theorem TN(x y:NV)(hx:x.ds.length<2^62)(hy:y.ds.length<2^62):AP aa 131 [x.av,y.av]=some (.I (ph (tr x.ds) (tr y.ds))):=
 fH (Uo x y [] hx hy) (ft _ _ _) (by simp[gF])
theorem F7(x y:NV)(m:af)(K:KT)(hl:x.ds.length<2^40)(hy:y.ds.length<=x.ds.length)(dx:Dg x.ds)(dy:Dg y.ds):∀j i:Nat,i+j=x.ds.length ->
  su y.av (.lst none false (.tok m.length 161) ((bV x.ds y.ds i).1.map dg)) (.U (bV x.ds y.ds i).2) x.av (.I x.ds.length) (.I i) (lw m i) K
   = K (.exit 0) (yr (.lst none false (.tok m.length 161) ((bV x.ds y.ds x.ds.length).1.map dg)) (.U (bV x.ds y.ds x.ds.length).2) (lw m x.ds.length)):=by
 intro j
 induction j with
 | zero=>
  intro i hi;have:i=x.ds.length:=Z;subst this;rw[F9];simp[bg,au]
 | succ j ih=>
  intro i hi;have ih:=ih (i+1) Z;have hc:=rc dx dy i;have h1:=dx i;have h2:=dy i;rw[F9];have hi':((i:Nat):Int)<(x.ds.length:Int):=Z;have hw:IntKind.wrap .i64 ((i:Int)+1)=((i+1:Nat):Int):=by rw[gz]<;>omega
  simp only[bg,O,az,ai hi'];simp only[NV.av] at ih ⊢
  have hidx:aE none (.lst none x.z x.o (x.ds.map dg)) (.I i)=some (.vptr [dg (x.ds.getD i 0)]):=by
   rw[pw Z Z];simp
  rw[hidx];have e1:IntKind.wrap .u64 ((x.ds.getD i 0:Nat):Int)=(x.ds.getD i 0:Nat):=by rw[it]<;>omega
  have e2:IntKind.wrap .u64 (((bV x.ds y.ds i).2:Int)+(x.ds.getD i 0:Nat))=(((bV x.ds y.ds i).2+x.ds.getD i 0:Nat):Int):=by rw[it]<;>omega
  simp only[O,cr,dg,jF,e1,iY,e2,jX,bA,bg,az,hw]
  have fin:∀s:Nat,s=(bV x.ds y.ds i).2+x.ds.getD i 0+y.ds.getD i 0->(bF none false 161 none 4 (lw m i) (.lst none false (.tok m.length 161) ((bV x.ds y.ds i).1.map dg)) (.lst none false .full [.int .u32 (IntKind.wrap .u32 s)]))=some (.lst none false (.tok m.length 161) ((bV x.ds y.ds (i+1)).1.map dg),lw m (i+1)):=by
   intro s hs;have hlen:((bV x.ds y.ds i).1.map dg).length=i:=by rw[bA,qa]
   have:=yX (e:=161) (b:=4) (m:=m) (es:=(bV x.ds y.ds i).1.map dg) (z:=false) (o:=.full) (y:=.int .u32 (IntKind.wrap .u32 s)) (by rw[hlen];simp only[fq];omega);rw[hlen] at this;rw[this];congr 3;simp only[bV,gW,cU,mc,dg,qO,<- hs]
   rfl
  by_cases h:(i:Int)<(y.ds.length:Int)
  .rw[ai h]
   have hidy:aE none (.lst none y.z y.o (y.ds.map dg)) (.I i)=some (.vptr [dg (y.ds.getD i 0)]):=by
    rw[pw Z Z];simp
   have e3:IntKind.wrap .u64 ((y.ds.getD i 0:Nat):Int)=(y.ds.getD i 0:Nat):=by rw[it]<;>omega
   have e4:IntKind.wrap .u64 ((((bV x.ds y.ds i).2+x.ds.getD i 0:Nat):Int)+(y.ds.getD i 0:Nat))=(((bV x.ds y.ds i).2+x.ds.getD i 0+y.ds.getD i 0:Nat):Int):=by rw[it]<;>omega
   have hidy':=hidy;simp only[dg] at hidy';rw[hidy'];simp only[O,cr,jF,e3,iY,e4,kX];have f:=fin _ rfl;rw[f];simp only[O,vf _ _ _ (oJ _),hw];exact ih
  .rw[ag h]
   have h0:y.ds.getD i 0=0:=by
    rw[aK,kT Z];rfl
   simp only[O,jF,kX];have f:=fin ((bV x.ds y.ds i).2+x.ds.getD i 0) Z;rw[f];simp only[O,vf _ _ _ (oJ _),iY,hw];have:(bV x.ds y.ds (i+1)).2=((bV x.ds y.ds i).2+x.ds.getD i 0)/4294967296:=by simp only[bV,h0,iw]
   rw[this] at ih;exact ih
theorem FI(a b:List Nat)(m:af)(hl:a.length<2^40)(da:Dg a)(db:Dg b):so (aD f130) (.exit 0) (yr (.lst none false (.tok m.length 161) ((bV a b a.length).1.map dg)) (.U (bV a b a.length).2) (lw m a.length))=some (NV.av ⟨false,.no,u6 a b⟩,lw m (a.length+1)):=by
 have hc:=rc da db a.length;have hlen:((bV a b a.length).1.map dg).length=a.length:=by rw[bA,qa]
 rw[Pd];simp only[jF,O,kX,se (oJ _) (by omega:(((bV a b a.length).2:Nat):Int)<4294967296)];have:=yX (e:=161) (b:=4) (m:=m) (es:=(bV a b a.length).1.map dg) (z:=false) (o:=.full) (y:=.int .u32 (bV a b a.length).2) (by rw[hlen];simp only[fq];omega);rw[hlen] at this;rw[this];simp only[O];have e:(AV.lst none false (.tok m.length 161) ((bV a b a.length).1.map dg++[.int .u32 (bV a b a.length).2]))=NV.av ⟨false,.tok m.length 161,(bV a b a.length).1++[(bV a b a.length).2]⟩:=by simp[NV.av,dg]
 rw[e,b8 (bT _),nt _ (by simp only[NV.fr,aQ,qa,a8,bq];omega)]
 rfl
theorem Um(x y:NV)(m:af)(hx:x.ds.length<2^40)(hy:y.ds.length<2^40)(dx:Dg x.ds)(dy:Dg y.ds):∃m',AC aa 130 [x.av,y.av] m=some (NV.av ⟨false,.no,sX (tr x.ds) (tr y.ds)⟩,m'):=by
 have hx':=tQ x.ds;have hy':=tQ y.ds;have dx':=oB dx;have dy':=oB dy;rw[Ul,b8 (bT x),nt x.fr (by simp only[NV.fr];omega)];simp only[aP,O,b8 (bT y),nt y.fr (by simp only[NV.fr];omega)];simp only[NV.av,jX,bA,O,bg,az,iY,NV.fr];unfold sX
 by_cases h:(tr x.ds).length<(tr y.ds).length
 .rw[ai Z,ai h,gz Z Z,K0 Z Z Z];simp only[O];have:=F7 ⟨y.z,.no,tr y.ds⟩ ⟨x.z,.no,tr x.ds⟩ m (so (aD f130)) (by simp only;omega) (by simp only;omega) dy' dx' (tr y.ds).length 0 aq;simp only[NV.av,bV,mc] at this;refine ⟨_,this.trans (FI (tr y.ds) (tr x.ds) m Z dy' dx')⟩
 .rw[ag Z,ag h,gz Z Z,K0 Z Z Z];simp only[O];have:=F7 ⟨x.z,.no,tr x.ds⟩ ⟨y.z,.no,tr y.ds⟩ m (so (aD f130)) (by simp only;omega) (by simp only;omega) dx' dy' (tr x.ds).length 0 aq;simp only[NV.av,bV,mc] at this;refine ⟨_,this.trans (FI (tr x.ds) (tr y.ds) m Z dx' dy')⟩
theorem TM(x y:NV)(hx:x.ds.length<2^40)(hy:y.ds.length<2^40)(dx:Dg x.ds)(dy:Dg y.ds):AP aa 130 [x.av,y.av]=some (NV.av ⟨false,.no,sX (tr x.ds) (tr y.ds)⟩):=by
 obtain ⟨m',h⟩:=Um x y [] hx hy dx dy;exact fH h (bT _ _) (by simp[lp])
theorem Tz(y:NV)(m:af)(K:KT)(x i n:Nat)(s:List Nat×Nat)(v21 v22 v23:AV)(hl:n<2^42)(hn:s.1.length=n)(hi:i+y.ds.length<=n)(dy:Dg y.ds)(hx:x<4294967296)(hs:Dg s.1)(hc:s.2<4294967296):∀j k:Nat,k+j=y.ds.length ->
  xj y.av (.arr m.length 0 n none) (.I i) (dg x) (.U (fm y.ds x i k s).2) v21 v22 v23 y.av (.I y.ds.length) (.I k) (jL m (fm y.ds x i k s).1) K
   = K (.exit 2) (BT y.av (.arr m.length 0 n none) (.I i) (.U (fm y.ds x i y.ds.length s).2) v21 v22 v23 (jL m (fm y.ds x i y.ds.length s).1)):=by
 intro j
 induction j with
 | zero=>
  intro k hk;have:k=y.ds.length:=Z;subst this;rw[F5];simp[bg,au]
 | succ j ih=>
  intro k hk;have ih:=ih (k+1) Z;obtain ⟨h1,h2⟩:=ti (i:=i) dy hx hs hc k;have h3:=h1 (i+k);have h4:=dy k;have h5:x*y.ds.getD k 0<=4294967295*4294967295:=mP Z Z;have hlen:=qy y.ds x i s k;rw[F5];have hk':((k:Nat):Int)<(y.ds.length:Int):=Z;have hw:IntKind.wrap .i64 ((k:Int)+1)=((k+1:Nat):Int):=by rw[gz]<;>omega
  have hw2:IntKind.wrap .i64 ((i:Int)+k)=((i+k:Nat):Int):=by rw[gz]<;>omega
  simp only[bg,O,az,ai hk']
  have hidx:aE none y.av (.I k)=some (.vptr [dg (y.ds.getD k 0)]):=by
   rw[NV.av,pw Z Z];simp
  rw[hidx];simp only[O,cr,iY,hw2];rw[de Z,O,qbj Z];have e1:IntKind.wrap .u64 (((fm y.ds x i k s).1.getD (i+k) 0:Nat):Int)=((fm y.ds x i k s).1.getD (i+k) 0:Nat):=by rw[it]<;>omega
  have e2:IntKind.wrap .u64 ((x:Nat):Int)=x:=by rw[it]<;>omega
  have e3:IntKind.wrap .u64 ((y.ds.getD k 0:Nat):Int)=(y.ds.getD k 0:Nat):=by rw[it]<;>omega
  have e4:IntKind.wrap .u64 ((x:Int)*(y.ds.getD k 0:Nat))=((x*y.ds.getD k 0:Nat):Int):=by rw[<- nU,it]<;>omega
  have e5:IntKind.wrap .u64 ((((fm y.ds x i k s).1.getD (i+k) 0:Nat):Int)+(x*y.ds.getD k 0:Nat))=(((fm y.ds x i k s).1.getD (i+k) 0+x*y.ds.getD k 0:Nat):Int):=by rw[it]<;>omega
  have e6:IntKind.wrap .u64 (((fm y.ds x i k s).2:Int)+((fm y.ds x i k s).1.getD (i+k) 0+x*y.ds.getD k 0:Nat))=(((fm y.ds x i k s).2+((fm y.ds x i k s).1.getD (i+k) 0+x*y.ds.getD k 0):Nat):Int):=by rw[it]<;>omega
  have e7:IntKind.wrap .u32 (((fm y.ds x i k s).2+((fm y.ds x i k s).1.getD (i+k) 0+x*y.ds.getD k 0):Nat):Int)=((((fm y.ds x i k s).2+((fm y.ds x i k s).1.getD (i+k) 0+x*y.ds.getD k 0))%4294967296:Nat):Int):=by rw[qO];rfl
  simp only[dg,O,jF,e1,e2,e3,qe,e4,e5,e6,e7,iY,hw2];rw[tI Z];simp only[O,vf _ _ _ (oJ _),hw];exact ih
theorem Ty(x y:NV)(m:af)(K:KT)(hx:x.ds.length<2^40)(hy:y.ds.length<2^40)(dx:Dg x.ds)(dy:Dg y.ds):∀j i:Nat,i+j=x.ds.length ->
  xi y.av (.arr m.length 0 (x.ds.length+y.ds.length) none) x.av (.I x.ds.length) (.I i) (jL m (fV x.ds y.ds i)) K
   = K (.exit 0) (BS (.arr m.length 0 (x.ds.length+y.ds.length) none) (jL m (fV x.ds y.ds x.ds.length))):=by
 intro j
 induction j with
 | zero=>
  intro i hi;have:i=x.ds.length:=Z;subst this;rw[F4];simp[bg,au]
 | succ j ih=>
  intro i hi;have ih:=ih (i+1) Z;rw[F4];have hi':((i:Nat):Int)<(x.ds.length:Int):=Z;have hw:IntKind.wrap .i64 ((i:Int)+1)=((i+1:Nat):Int):=by rw[gz]<;>omega
  have hw2:IntKind.wrap .i64 ((i:Int)+y.ds.length)=((i+y.ds.length:Nat):Int):=by rw[gz]<;>omega
  simp only[bg,O,az,ai hi']
  have hidx:aE none x.av (.I i)=some (.vptr [dg (x.ds.getD i 0)]):=by
   rw[NV.av,pw Z Z];simp
  have hlen:aL false y.av=some (.I y.ds.length):=by simp[NV.av,aL]
  rw[hidx];simp only[O,cr,hlen];have hb:=Tz y m (A5 K) (x.ds.getD i 0) i (x.ds.length+y.ds.length) (fV x.ds y.ds i,0) x.av (.I x.ds.length) (.I i) Z (qx ..) Z dy (dx i) (rI dx dy i) aq y.ds.length 0 Z;simp only[fm] at hb;refine hb.trans ?_;obtain ⟨h1,h2⟩:=ti (i:=i) (s:=(fV x.ds y.ds i,0)) dy (dx i) (rI dx dy i) aq y.ds.length;have hl:=qy y.ds (x.ds.getD i 0) i (fV x.ds y.ds i,0) y.ds.length;simp only[qx] at hl;rw[O6];simp only[hlen,O,iY,hw2,jF,se (oJ _) (by omega:(((fm y.ds (x.ds.getD i 0) i y.ds.length (fV x.ds y.ds i,0)).2:Nat):Int)<4294967296)];rw[de Z,O,tI Z];simp only[O,hw];exact ih
theorem Uh(x y:NV)(m:af)(hx:x.ds.length<2^40)(hy:y.ds.length<2^40)(dx:Dg x.ds)(dy:Dg y.ds):AC aa 127 [x.av,y.av] m=some (NV.av ⟨false,.no,vP (tr x.ds) (tr y.ds)⟩,m++[none]):=by
 have hx':=tQ x.ds;have hy':=tQ y.ds;rw[Ug,b8 (bT x),nt x.fr (by simp only[NV.fr];omega)];simp only[aP,O,b8 (bT y),nt y.fr (by simp only[NV.fr];omega)];have hl:∀x:NV,aL false x.av=some (.I x.ds.length):=fun x=>by simp[NV.av,aL]
 have hw:IntKind.wrap .i64 (((tr x.ds).length:Int)+(tr y.ds).length)=(((tr x.ds).length+(tr y.ds).length:Nat):Int):=by rw[gz]<;>omega
 simp only[hl,O,iY,NV.fr,hw];rw[KZ Z Z];simp only[O];have:=Ty ⟨x.z,.no,tr x.ds⟩ ⟨y.z,.no,tr y.ds⟩ m (A4 (aD f127)) (by simp only;omega) (by simp only;omega) (oB dx) (oB dy) (tr x.ds).length 0 aq;refine this.trans ?_;rw[O1];have hlen:=qx (tr x.ds) (tr y.ds) (tr x.ds).length;have hp:=qcm (cp:=AP aa) (m:=m) (g:=164) (ds:=fV (tr x.ds) (tr y.ds) (tr x.ds).length);rw[hlen] at hp;rw[hp];have:=nt ⟨false,.no,fV (tr x.ds) (tr y.ds) (tr x.ds).length⟩ (by simp only[hlen];omega);simp only[NV.av] at this;rw[this]
 rfl
theorem TL(x y:NV)(hx:x.ds.length<2^40)(hy:y.ds.length<2^40)(dx:Dg x.ds)(dy:Dg y.ds):AP aa 127 [x.av,y.av]=some (NV.av ⟨false,.no,vP (tr x.ds) (tr y.ds)⟩):=
 fH (Uh x y [] hx hy dx dy) (bT _ _) (by simp[lp])
def NV.ok(x:NV):Prop:=x.z=true->x.ds=[]
def og(x:NV):NV:=⟨x.z,if x.ds=[] then .full else .no,x.ds⟩
theorem HM(x:NV)(hz:x.ok)(hx:x.ds.length<2^40):AP aa 163 [x.av]=some (og x).av:=by
 have h0:ae .sl .eql x.av aw=some (.bool x.z):=rfl;obtain ⟨z,o,ds⟩:=x
 cases z with
 | true=>
  have:ds=[]:=hz rfl;subst this;refine fH (v:=NV.av ⟨true,.full,[]⟩) (m:=[]) ?_ (bT _ _) (by simp[lp]);rw[CA,h0]
  rfl
 | false=>
  cases ds with
  | nil=>
   refine fH (v:=NV.av ⟨false,.full,[]⟩) (m:=[]) ?_ (bT _ _) (by simp[lp]);rw[CA,h0]
   rfl
  | cons d ds=>
   refine fH (v:=NV.av ⟨false,.tok 0 161,d::ds⟩) (m:=[some (.tok (d::ds).length 1)]) ?_ (bT _ _) (by simp[lp]);rw[CA,h0];have hl:(ds.length+1)*4<=140737488355328:=by simp only[a8] at hx;omega
   simp only[O,au,cq,List.all_nil,aY,mc,NV.av,cU,bF,bq,a8,bA,bj,fq,hl,true_or,iE,jJ,aC,bX,Sh.size]
theorem ZN(x:NV):(og x).fr=og x:=by
 unfold og NV.fr;simp only[];split<;>rfl
theorem qav(x:NV):Fz (og x).av (og x).av:=by
 have:=bT (og x)
 rwa [ZN] at this
def El(n:Nat):List Nat:=tr [n%4294967296,n/4294967296]
theorem TJ(n:Nat)(hn:n<18446744073709551616):AP aa 123 [.U n]=some (og ⟨false,.no,El n⟩).av:=by
 have e1:IntKind.wrap .u32 (n:Int)=((n%4294967296:Nat):Int):=by rw[qO];rfl
 have e2:IntKind.wrap .u32 ((n:Int)/4294967296)=((n/4294967296:Nat):Int):=by rw[se]<;>omega
 have hb:cq none [.int .u32 ((n%4294967296:Nat):Int),.int .u32 ((n/4294967296:Nat):Int)]=some (NV.av ⟨false,.full,[n%4294967296,n/4294967296]⟩):=rfl;have hl:(tr [n%4294967296,n/4294967296]).length<=2:=tQ _;refine fH (m:=[]) ?_ (qav _ _) (by simp[lp]);rw[Ue];simp only[jF,O,e1,vf _ _ _ (oJ _),e2,hb];rw[b8 (bT _),nt _ (by simp[NV.fr])];simp only[aP,O];rw[b8 (bT _),HM _ (by simp[NV.ok,NV.fr]) (by simp only[NV.fr];omega)]
 rfl
def EG(a:List Nat):Bool:=decide (a.length=0)||decide (a.getD (a.length-1) 0≠0)
def ow(a:List Nat):AV:=match a with
 | []=>.tup [.U 0,.bool true]
 | [d]=>.tup [.U d,.bool true]
 | [d,e]=>.tup [.U (d+e*4294967296:Nat),.bool true]
 | _=>.tup [.U 0,.bool false]
theorem J1(a:List Nat):Fz (ow a) (ow a)/\gF (ow a)=true:=by
 unfold ow;split<;>exact ⟨fun _=>rfl,rfl⟩
theorem TB(x y:NV)(m:af)(K:KT)(hl:x.ds.length<2^40)(dx:Dg x.ds)(dy:Dg y.ds):∀j i:Nat,i+j=x.ds.length ->
  qS y.av (.arr m.length 0 x.ds.length none) (.U (eZ x.ds y.ds i).2) x.av (.I x.ds.length) (.I i) (jL m (eZ x.ds y.ds i).1) K
   = K (.exit 0) (BV (.arr m.length 0 x.ds.length none) (jL m (eZ x.ds y.ds x.ds.length).1)):=by
 intro j
 induction j with
 | zero=>
  intro i hi;have:i=x.ds.length:=Z;subst this;rw[Gb];simp[bg,au]
 | succ j ih=>
  intro i hi;have ih:=ih (i+1) Z;have hc:=AD x.ds y.ds i;have hlen:=tL x.ds y.ds i;have h1:=dx i;have h2:=dy i;rw[Gb];have hi':((i:Nat):Int)<(x.ds.length:Int):=Z;have hw:IntKind.wrap .i64 ((i:Int)+1)=((i+1:Nat):Int):=by rw[gz]<;>omega
  have e1:IntKind.wrap .u64 ((x.ds.getD i 0:Nat):Int)=(x.ds.getD i 0:Nat):=by rw[it]<;>omega
  have e2:IntKind.wrap .u64 ((y.ds.getD i 0:Nat):Int)=(y.ds.getD i 0:Nat):=by rw[it]<;>omega
  have e3:IntKind.wrap .u64 (((eZ x.ds y.ds i).2:Int)+(y.ds.getD i 0:Nat))=(((eZ x.ds y.ds i).2+y.ds.getD i 0:Nat):Int):=by rw[it]<;>omega
  have s1:ae .o .shl (.U 1) (.U 32)=some (.U 4294967296):=rfl;have s0:ae .o .shl (.U 0) (.U 32)=some (.U 0):=rfl;simp only[bg,O,az,ai hi',ju (by omega:i<x.ds.length),cr,fT]
  have big:∀t:Nat,t=(eZ x.ds y.ds i).2+y.ds.getD i 0->x.ds.getD i 0<t->
    IntKind.wrap .u32 (IntKind.wrap .u64 (IntKind.wrap .u64 ((x.ds.getD i 0:Nat)+4294967296:Int)-(t:Nat)))=((x.ds.getD i 0+4294967296-t:Nat):Int)/\eZ x.ds y.ds (i+1)=((eZ x.ds y.ds i).1.set i (x.ds.getD i 0+4294967296-t),1):=by
   intro t ht hlt;refine ⟨?_,by simp only[eZ,<- ht,ai hlt]⟩;rw[it (x:=((x.ds.getD i 0:Nat):Int)+4294967296) Z Z,it Z Z,se Z Z];omega
  have small:∀t:Nat,t=(eZ x.ds y.ds i).2+y.ds.getD i 0->¬ x.ds.getD i 0<t->
    IntKind.wrap .u32 (IntKind.wrap .u64 (IntKind.wrap .u64 ((x.ds.getD i 0:Nat)+0:Int)-(t:Nat)))=((x.ds.getD i 0-t:Nat):Int)/\eZ x.ds y.ds (i+1)=((eZ x.ds y.ds i).1.set i (x.ds.getD i 0-t),0):=by
   intro t ht hlt;refine ⟨?_,by simp only[eZ,<- ht,ag hlt]⟩;rw[it (x:=((x.ds.getD i 0:Nat):Int)+0) Z Z,it Z Z,se Z Z];omega
  by_cases h:(i:Int)<(y.ds.length:Int)
  .rw[ai h,ju (by omega:i<y.ds.length)];simp only[O,cr,dg,jF,e1,e2,e3,iY,bg,az]
   by_cases h3:x.ds.getD i 0<(eZ x.ds y.ds i).2+y.ds.getD i 0
   .obtain ⟨b1,b2⟩:=big _ rfl h3;rw[ai Z,s1];simp only[O,iY,mh,jF,b1,hw];rw[de Z,O,tI Z];rw[b2] at ih;exact ih
   .obtain ⟨b1,b2⟩:=small _ rfl h3;rw[ag Z,s0];simp only[O,iY,mh,jF,b1,hw];rw[de Z,O,tI Z];rw[b2] at ih;exact ih
  .rw[ag h];have h0:=ry h;simp only[O,cr,dg,jF,e1,bg,az]
   by_cases h3:x.ds.getD i 0<(eZ x.ds y.ds i).2
   .obtain ⟨b1,b2⟩:=big (eZ x.ds y.ds i).2 Z h3;rw[ai Z,s1];simp only[O,iY,mh,jF,b1,hw];rw[de Z,O,tI Z];rw[b2] at ih;exact ih
   .obtain ⟨b1,b2⟩:=small (eZ x.ds y.ds i).2 Z h3;rw[ag Z,s0];simp only[O,iY,mh,jF,b1,hw];rw[de Z,O,tI Z];rw[b2] at ih;exact ih
end Go.Ab
namespace Go.Ab
def fN(a:List Nat)(d:Nat):Nat->List Nat×Nat
 | 0=>(List.replicate a.length 0,0)
 | k+1=>((fN a d k).1.set (a.length-1-k) (((fN a d k).2*4294967296+a.getD (a.length-1-k) 0)/d),((fN a d k).2*4294967296+a.getD (a.length-1-k) 0)%d)
theorem qH(a:List Nat)(d:Nat):∀k,(fN a d k).1.length=a.length
 | 0=>by simp[fN]
 | k+1=>by simp[fN,qH a d k]
theorem Aq{a:List Nat}{d:Nat}(hd:0<d):∀k,(fN a d k).2<d
 | 0=>hd
 | k+1=>io _ hd
theorem ER{a:List Nat}{d:Nat}(ha:Dg a)(hd:0<d)(k i:Nat):((fN a d k).2*4294967296+a.getD i 0)/d<4294967296:=by
 have h1:=Aq (a:=a) hd k;have h2:=ha i;rw[oW hd];have:((fN a d k).2+1)*4294967296<=d*4294967296:=fL _ h1;rw[bU 4294967296 d];omega
theorem tH{a:List Nat}{d:Nat}(ha:Dg a)(hd:0<d):∀k,Dg (fN a d k).1
 | 0=>rp _
 | k+1=>(tH ha hd k).set _ _ (ER ha hd k _)
theorem MD(a:List Nat)(d j:Nat):∀k,j+k<a.length->(fN a d k).1.getD j 0=0
 | 0,_=>zB _ _
 | k+1,h=>by
  rw[fN];simp only[];rw[po Z];exact MD a d j k Z
theorem ME{a:List Nat}{d:Nat}(hd:0<d):∀k,k<=a.length->val (fN a d k).1*d+4294967296^(a.length-k)*(fN a d k).2+vs a (a.length-k)=val a
 | 0,_=>by simp[fN,AN,gH]
 | k+1,h=>by
  have ih:=ME (a:=a) hd k Z;obtain ⟨i,hi⟩:∃i,i=a.length-1-k:=⟨_,rfl⟩;have e1:a.length-k=i+1:=Z;have e2:a.length-(k+1)=i:=Z;have hk:=MD a d i k Z;have hl:=qH a d k;rw[e1,hJ,ij] at ih;rw[e2,fN,<- hi];generalize fN a d k=t at *;simp only[];have h1:=wt t.1 i ((t.2*4294967296+a.getD i 0)/d) Z;rw[hk,kh,iw] at h1;rw[h1,eW,cn,jD (val t.1*d),<- cV,bU (_/_) d,oV];rw[<- ih,cV];have:4294967296^i*(t.2*4294967296)=4294967296^i*4294967296*t.2:=by rw[bU t.2,cn]
  omega
def Ar(a:List Nat)(d:Nat):List Nat:=tr (fN a d a.length).1
theorem MF{a:List Nat}{d:Nat}(ha:Dg a)(hd:0<d):Ar a d=aB (val a/d)/\(fN a d a.length).2=val a%d:=by
 have h:=ME (a:=a) hd a.length (aI _);have h2:=Aq (a:=a) hd a.length;simp only[jQ,Nat.pow_zero,jP,nh,iw] at h;rw[Ar,jb (tH ha hd _)]
 have e:val a/d=val (fN a d a.length).1/\val a%d=(fN a d a.length).2:=by
  rw[<- h]
  constructor
  .rw[bU,Nat.mul_add_div hd,sR h2];rfl
  .rw[bU,Nat.mul_add_mod,iX h2]
 exact ⟨by rw[e.1],e.2.symm⟩
def wn(u:List Nat)(j:Nat):Nat->Nat
 | 0=>0
 | i+1=>wn u j i+4294967296^i*u.getD (j+i) 0
theorem wA(u:List Nat):∀i,wn u 0 i=vs u i
 | 0=>rfl
 | i+1=>by rw[wn,wA u i,hJ,bj]
theorem sc{u:List Nat}(h:Dg u)(j:Nat):∀i,wn u j i<4294967296^i
 | 0=>by simp[wn]
 | i+1=>by
  have ih:=sc h j i;have h1:=h (j+i);rw[wn,ij];have:4294967296^i*(u.getD (j+i) 0+1)<=4294967296^i*4294967296:=iF _ h1;rw[cV] at this;omega
theorem Nk{u w:List Nat}{j:Nat}:∀i,(∀k,k<i->u.getD (j+k) 0=w.getD (j+k) 0)->wn u j i=wn w j i
 | 0,_=>rfl
 | i+1,h=>by rw[wn,wn,Nk i (fun k hk=>h k Z),h i Z]
theorem oD{u:List Nat}{j i p x:Nat}(h:p<j\/j+i<=p):wn (u.set p x) j i=wn u j i:=by
 apply Nk;intro k hk;exact po Z
theorem Nl(u:List Nat)(j i:Nat):∀k,wn u j (i+k)=wn u j i+4294967296^i*wn u (j+i) k
 | 0=>by simp[wn]
 | k+1=>by
  rw[<- jD,wn,Nl u j i k,wn,cV,mQ,cn,jD j,jD]
theorem wz(u:List Nat)(j i:Nat):wn u j (i+1)=u.getD j 0+4294967296*wn u (j+1) i:=by
 rw[nr i 1,Nl u j 1 i];simp[wn]
theorem Fh{u:List Nat}{j:Nat}:∀i,(∀k,k<i->u.getD (j+k) 0=0)->wn u j i=0
 | 0,_=>rfl
 | i+1,h=>by rw[wn,Fh i (fun k hk=>h k Z),h i Z];simp
def gU(a:List Nat)(s:Nat):Nat->List Nat
 | 0=>List.replicate (a.length+1) 0
 | i+1=>((gU a s i).set i ((gU a s i).getD i 0+a.getD i 0*2^s%4294967296)).set (i+1) (a.getD i 0*2^s/4294967296)
theorem rV(a:List Nat)(s:Nat):∀i,(gU a s i).length=a.length+1
 | 0=>by simp[gU]
 | i+1=>by simp[gU,rV a s i]
theorem rT{s:Nat}(hs:s<32):2^s*2^(32-s)=4294967296:=by
 rw[<- mQ,show s+(32-s)=32 by omega]
theorem Dx{x s:Nat}(hx:x<4294967296):x*2^s/4294967296<2^s:=by
 rw[oW Z];rw[bU];exact Nat.mul_lt_mul_of_pos_left hx (oY s)
theorem KR{x s:Nat}(hs:s<32):x*2^s%4294967296+2^s<=4294967296:=by
 have h:=rT hs
 have:x*2^s%4294967296=x%2^(32-s)*2^s:=by
  rw[<- h,bU (2^s) (2^(32-s)),Nat.mul_mod_mul_right]
 rw[this];have h2:x%2^(32-s)<2^(32-s):=io _ (oY _);have h3:(x%2^(32-s)+1)*2^s<=2^(32-s)*2^s:=fL _ h2;rw[bU (2^(32-s)),h,eW] at h3;omega
theorem EQ{a:List Nat}{s:Nat}(ha:Dg a):∀i,i<=a.length->(gU a s i).getD i 0<2^s
 | 0,_=>by rw[gU,zB];exact oY s
 | i+1,h=>by
  have hl:=rV a s i;rw[gU,mY (by rw[ff];omega)];exact Dx (ha i)
theorem EP{a:List Nat}{s:Nat}(ha:Dg a)(hs:s<32):∀i,i<=a.length->Dg (gU a s i)
 | 0,_=>rp _
 | i+1,h=>by
  have h1:=EQ (s:=s) ha i Z;have h2:=KR (x:=a.getD i 0) hs;have h3:=Dx (x:=a.getD i 0) (s:=s) (ha i);have h4:2^s<=2^31:=lF Z Z;exact ((EP ha hs i (by omega)).set _ _ (by omega)).set _ _ Z
theorem Mw{a:List Nat}{s:Nat}:∀i,i<=a.length->wn (gU a s i) 0 (i+1)=2^s*vs a i
 | 0,_=>by rw[gU,Fh];rfl;intro k _;exact zB _ _
 | i+1,h=>by
  have ih:=Mw (a:=a) (s:=s) i Z;have hl:=rV a s i;rw[wn,gU,oD Z,bj,mY (by rw[ff];omega),wn,oD Z,bj,mY Z];rw[wn,bj] at ih;have e:=tC (4294967296^i) 4294967296 (a.getD i 0*2^s);rw[hJ,cV (2^s),<- ih,ij,qX (2^s),bU (2^s),cV];omega
theorem Mx{a:List Nat}{s:Nat}:val (gU a s a.length)=2^s*val a:=by
 have h:=Mw (a:=a) (s:=s) a.length (aI _);rw[wA,gH (by rw[rV];omega),gH (aI _)] at h;exact h
theorem qaH{g r top v1 v2 u0 lo vlo p q:Nat}(h:g*v1+r=top)(hc:r*4294967296+u0<g*v2)(hlo:lo<p)
  (hq:q*((v1*4294967296+v2)*p+vlo)<=(top*4294967296+u0)*p+lo):q<g:=by
 apply lT;intro hn;have hg:g<=q:=pY hn;have h1:g*((v1*4294967296+v2)*p+vlo)<=q*((v1*4294967296+v2)*p+vlo):=fL _ hg
 have h2:(top*4294967296+u0+1)*p<=g*(v1*4294967296+v2)*p:=by
  apply fL;rw[cV,<- cn,<- h];omega
 rw[cV,<- cn] at h1;rw[eW _ 1,jP] at h2;omega
theorem Ke{g r top v1 v2 u0 lo vlo p U V:Nat}(h:g*v1+r=top)(hc:g*v2<=r*4294967296+u0)(hg:g<4294967296)(hv:vlo<p)(hv1:0<v1)
  (hU:U=(top*4294967296+u0)*p+lo) (hV:V=(v1*4294967296+v2)*p+vlo):g*V<U+V:=by
 have h2:g*(v1*4294967296+v2)*p<=(top*4294967296+u0)*p:=by
  apply fL;rw[cV,<- cn,<- h];omega
 have h3:g*vlo<=4294967296*p:=mP Z Z
 have h4:g*vlo<4294967296*p:=by
  rcases Nat.eq_zero_or_pos g with h0|h0
  .subst h0;rw[p5];omega
  .exact Nat.mul_lt_mul'' hg hv
 have h5:1*4294967296*p<=v1*4294967296*p:=fL _ (fL _ hv1);rw[hV,cV,<- cn,eW (v1*4294967296)];omega
def gE(v:List Nat)(g j:Nat):Nat->List Nat->List Nat×Nat×Nat
 | 0,u=>(u,0,0)
 | i+1,u=>
  let t:=gE v g j i u
  let c:=t.2.2+g*v.getD i 0
  let y:=c%4294967296+t.2.1
  if t.1.getD (i+j) 0<y then (t.1.set (i+j) (t.1.getD (i+j) 0+4294967296-y),1,c/4294967296)
  else (t.1.set (i+j) (t.1.getD (i+j) 0-y),0,c/4294967296)
theorem vO(v:List Nat)(g j:Nat)(u:List Nat):∀i,(gE v g j i u).1.length=u.length
 | 0=>rfl
 | i+1=>by
  rw[gE];split<;>simp[vO v g j u i]
theorem vN(v:List Nat)(g j:Nat)(u:List Nat):∀i,(gE v g j i u).2.1<=1
 | 0=>by simp[gE]
 | i+1=>by
  rw[gE];split<;>simp
theorem zU{v:List Nat}{g:Nat}(hv:Dg v)(hg:g<4294967296)(j:Nat)(u:List Nat):∀i,(gE v g j i u).2.2<4294967296
 | 0=>by simp[gE]
 | i+1=>by
  have ih:=zU hv hg j u i;have h4:=hv i;have h5:g*v.getD i 0<=4294967295*4294967295:=mP Z Z;rw[gE];split<;>(simp only[];omega)
theorem zV{v u:List Nat}{g:Nat}(hu:Dg u)(j:Nat):∀i,Dg (gE v g j i u).1
 | 0=>hu
 | i+1=>by
  have ih:=zV (v:=v) (g:=g) hu j i;have hb:=vN v g j u i;have h1:=ih (i+j);rw[gE]
  split
  .exact ih.set _ _ Z
  .exact ih.set _ _ Z
theorem D0(v:List Nat)(g j:Nat)(u:List Nat)(k:Nat):∀i,k<j\/i+j<=k->(gE v g j i u).1.getD k 0=u.getD k 0
 | 0,_=>rfl
 | i+1,h=>by
  have ih:=D0 v g j u k i Z;rw[gE];split<;>simp only[]<;>rw[po Z,ih]
theorem D3{v u:List Nat}{g:Nat}(hu:Dg u)(j:Nat):∀i,i+j<=u.length->wn (gE v g j i u).1 j i+g*vs v i=wn u j i+4294967296^i*((gE v g j i u).2.2+(gE v g j i u).2.1)
 | 0,_=>by simp[gE,wn,nh]
 | i+1,h=>by
  have ih:=D3 (v:=v) (g:=g) hu j i Z;have hk:=D0 v g j u (i+j) i Z;have hl:=vO v g j u i;have hb:=vN v g j u i;have hd:=hu (i+j);rw[wn.eq_2 u,hJ,ij,cV,<- cn g,bU g (4294967296^i),cn];rw[gE];generalize gE v g j i u=t at *;obtain ⟨t,b,c⟩:=t;simp only[] at *;rw[hk,nr j i];have e:=tC (4294967296^i) 4294967296 (c+g*v.getD i 0);generalize hc:c+g*v.getD i 0=C at *;rw[<- hc,cV,hc] at e;rw[cV] at ih
  split
  .rename_i hlt;simp only[];rw[wn,oD Z,nr j i,mY Z];have e2:=L3 (4294967296^i) 4294967296 (u.getD (i+j) 0) (C%4294967296+b) Z;rw[cV _ (C%4294967296)] at e2;rw[cV _ (C/4294967296),ii];omega
  .rename_i hlt;simp only[];rw[wn,oD Z,nr j i,mY Z];have e2:=Ah (4294967296^i) (u.getD (i+j) 0) (C%4294967296+b) Z;rw[cV _ (C%4294967296)] at e2;rw[iw];omega
def iy(v:List Nat)(j:Nat):Nat->List Nat->List Nat×Nat
 | 0,u=>(u,0)
 | i+1,u=>
  let t:=iy v j i u
  let c:=t.2+(t.1.getD (i+j) 0+v.getD i 0)
  (t.1.set (i+j) (c%4294967296),c/4294967296)
theorem uY(v:List Nat)(j:Nat)(u:List Nat):∀i,(iy v j i u).1.length=u.length
 | 0=>rfl
 | i+1=>by simp[iy,uY v j u i]
theorem yU{v u:List Nat}(hv:Dg v)(hu:Dg u)(j:Nat):∀i,Dg (iy v j i u).1/\(iy v j i u).2<=1
 | 0=>⟨hu,by simp[iy]⟩
 | i+1=>by
  obtain ⟨h1,h2⟩:=yU hv hu j i;have h3:=h1 (i+j);have h4:=hv i;refine ⟨h1.set _ _ (io _ Z),?_⟩;simp only[iy];omega
theorem CH(v:List Nat)(j:Nat)(u:List Nat)(k:Nat):∀i,k<j\/i+j<=k->(iy v j i u).1.getD k 0=u.getD k 0
 | 0,_=>rfl
 | i+1,h=>by
  have ih:=CH v j u k i Z;rw[iy];simp only[];rw[po Z,ih]
theorem I3(v:List Nat)(j:Nat)(u:List Nat):∀i,i+j<=u.length->wn (iy v j i u).1 j i+4294967296^i*(iy v j i u).2=wn u j i+vs v i
 | 0,_=>by simp[iy,wn,nh]
 | i+1,h=>by
  have ih:=I3 v j u i Z;have hk:=CH v j u (i+j) i Z;have hl:=uY v j u i;rw[wn.eq_2 u,hJ,ij];rw[iy];simp only[];generalize iy v j i u=t at *;rw[wn,oD Z,nr j i,mY Z,hk];have e:=tC (4294967296^i) 4294967296 (t.2+(u.getD (i+j) 0+v.getD i 0));generalize hc:t.2+(u.getD (i+j) 0+v.getD i 0)=C at *;rw[<- hc,cV,cV,hc] at e;omega
def rC(v:List Nat)(n j g:Nat)(u:List Nat):List Nat×Nat:=
 let t:=gE v g j n u
 let y:=t.2.2+t.2.1
 if t.1.getD (j+n) 0<y then
  let w:=iy v j n (t.1.set (j+n) (t.1.getD (j+n) 0+4294967296-y))
  (w.1.set (j+n) ((w.1.getD (j+n) 0+w.2)%4294967296),g-1)
 else (t.1.set (j+n) (t.1.getD (j+n) 0-y),g)
theorem qh{q r U V:Nat}(h:U=q*V+r)(hr:r<V):U/V=q/\U%V=r:=by
 subst h
 constructor
 .rw[bU,Nat.mul_add_div Z,sR hr];rfl
 .rw[bU,Nat.mul_add_mod,iX hr]
theorem qaV{v u:List Nat}{n j g:Nat}(hv:Dg v)(hu:Dg u)(hn:v.length=n)(hL:j+n<u.length)(hg:g<4294967296)(hVp:0<val v)
  (h1:wn u j (n+1)/val v<=g) (h2:g*val v<wn u j (n+1)+val v) :
  Dg (rC v n j g u).1/\(rC v n j g u).1.length=u.length/\(∀k,k<j\/j+n<k->(rC v n j g u).1.getD k 0=u.getD k 0) /\
  wn (rC v n j g u).1 j (n+1)=wn u j (n+1)%val v/\(rC v n j g u).2=wn u j (n+1)/val v:=by
 have hV:vs v n=val v:=gH Z;have hVP:val v<4294967296^n:=by rw[<- hn];exact jA hv
 have hw:=D3 (v:=v) (g:=g) hu j n Z;have hk:∀k,k<j\/j+n<=k->(gE v g j n u).1.getD k 0=u.getD k 0:=fun k h=>D0 v g j u k n Z;have hl:=vO v g j u n;have hb:=vN v g j u n;have hc:=zU hv hg j u n;have hd:=zV (v:=v) (g:=g) hu j n;have hd1:=sc hd j n;have ht:=hk (j+n) Z;have htd:=hu (j+n);have hUp:=sc hu j n;have hUe:wn u j (n+1)=wn u j n+4294967296^n*u.getD (j+n) 0:=rfl;rw[hUe] at h1 h2 ⊢;rw[hV] at hw;unfold rC;simp only[];generalize gE v g j n u=t at *;obtain ⟨t,b,c⟩:=t;simp only[] at *;rw[ht]
 have hU1:wn u j n+4294967296^n*u.getD (j+n) 0<(g+1)*val v:=by
  have:=Nat.lt_succ_of_le h1
  rwa [oW hVp] at this
 rw[eW,jP] at hU1;generalize u.getD (j+n) 0=top at *
 by_cases h:top<c+b
 .rw[ai h];simp only[];have hd2:Dg (t.set (j+n) (top+4294967296-(c+b))):=hd.set _ _ Z;have ha:=I3 v j (t.set (j+n) (top+4294967296-(c+b))) n (by rw[ff];omega);have hak:∀k,k<j\/j+n<=k->(iy v j n (t.set (j+n) (top+4294967296-(c+b)))).1.getD k 0=(t.set (j+n) (top+4294967296-(c+b))).getD k 0:=fun k h=>CH v j _ k n Z;obtain ⟨had,hac⟩:=yU hv hd2 j n;have hal:=uY v j (t.set (j+n) (top+4294967296-(c+b))) n;rw[oD Z,hV] at ha;have htop:=hak (j+n) Z;rw[mY Z] at htop;have hwn:=sc had j n
  have hset:∀k,k<j\/j+n<k->(iy v j n (t.set (j+n) (top+4294967296-(c+b)))).1.getD k 0=u.getD k 0:=by
   intro k hk';rw[hak k Z,po Z,hk k Z]
  rw[ff] at hal;generalize iy v j n (t.set (j+n) (top+4294967296-(c+b)))=w at *;obtain ⟨w,x⟩:=w;simp only[] at *;rw[htop]
  have hgU:wn u j n+4294967296^n*top<g*val v:=by
   have:4294967296^n*(top+1)<=4294967296^n*(c+b):=iF _ h;rw[cV] at this;omega
  have hg1:1<=g:=by
   apply kD;intro e;rw[e,p5] at hgU;omega
  obtain ⟨g',hg'⟩:∃g',g=g'+1:=⟨g-1,Z⟩;subst hg';rw[eW,jP] at hgU h2 hw;obtain ⟨r,hr⟩:∃r,wn u j n+4294967296^n*top=g'*val v+r:=⟨_,(Nat.add_sub_cancel' (by omega)).symm⟩;obtain ⟨hq,hm⟩:=qh hr Z
  have key:wn w j n+4294967296^n*x=r+4294967296^n*(c+b-top):=by
   have:=Ah (4294967296^n) (c+b) top Z;omega
  have hx:x=c+b-top/\wn w j n=r:=by
   have h3:=qh (q:=x) (r:=wn w j n) (V:=4294967296^n) (by rw[bU x,nr]) hwn;have h4:=qh (q:=c+b-top) (r:=r) (U:=wn w j n+4294967296^n*x) (V:=4294967296^n) (by rw[key,bU (c+b-top),nr]) Z;exact ⟨h3.1.symm.trans h4.1,h3.2.symm.trans h4.2⟩
  refine ⟨had.set _ _ (io _ Z),by rw[ff,hal,hl],?_,?_,by rw[hq];rfl⟩
  .intro k hk';rw[po Z];exact hset k hk'
  .rw[wn,oD Z,mY Z,hx.2,hm,hx.1];rw[show (top+4294967296-(c+b)+(c+b-top))%4294967296=0 by omega]
   rfl
 .rw[ag h];simp only[];have e:=Ah (4294967296^n) top (c+b) Z;have hr:wn u j n+4294967296^n*top=g*val v+(wn t j n+4294967296^n*(top-(c+b))):=Z;obtain ⟨hq,hm⟩:=qh hr Z
  refine ⟨hd.set _ _ Z,by rw[ff,hl],?_,?_,by rw[hq]⟩
  .intro k hk';rw[po Z];exact hk k Z
  .rw[wn,oD Z,mY Z,hm]
structure KInv (v u0:List Nat) (n m j:Nat) (u q:List Nat):Prop where
 du:Dg u
 lu:u.length=m+n
 dq:Dg q
 lq:q.length=m
 hi:∀k,j+n<=k->u.getD k 0=0
 lo:∀k,k<j->u.getD k 0=u0.getD k 0
 lt:wn u j n<val v
 eq:wn q j (m-j)*val v+wn u j n=wn u0 j (m+n-j)
theorem KInv.step{v u0 u q:List Nat}{n m j:Nat}(hv:Dg v)(hn:v.length=n)(hj:j<m)(h:KInv v u0 n m (j+1) u q){u':List Nat}{d:Nat}
  (du:Dg u') (lu:u'.length=u.length) (hk:∀k,k<j\/j+n<k->u'.getD k 0=u.getD k 0)
  (hw:wn u' j (n+1)=wn u j (n+1)%val v) (hd:d=wn u j (n+1)/val v) (hVp:0<val v):KInv v u0 n m j u' (q.set j d):=by
 have hU:wn u j (n+1)=u.getD j 0+4294967296*wn u (j+1) n:=wz u j n;have hlt:wn u j (n+1)%val v<val v:=io _ hVp;have hVP:val v<4294967296^n:=by rw[<- hn];exact jA hv
 have htop:u'.getD (j+n) 0=0:=by
  rw[wn] at hw;apply lT;intro hne;have:4294967296^n*1<=4294967296^n*u'.getD (j+n) 0:=iF _ Z;omega
 have hwn:wn u' j n=wn u j (n+1)%val v:=by
  rw[wn,htop,kh,iw] at hw;exact hw
 have hdB:d<4294967296:=by
  rw[hd,oW hVp,hU];have h1:=h.lt;have h2:=h.du j;omega
 refine ⟨du,by rw[lu,h.lu],h.dq.set _ _ hdB,by rw[ff,h.lq],?_,?_,by rw[hwn];exact hlt,?_⟩
 .intro k hk'
  by_cases e:k=j+n
  .rw[e,htop]
  .rw[hk k Z];exact h.hi k Z
 .intro k hk';rw[hk k Z];exact h.lo k Z
 .have e:=h.eq;obtain ⟨r,hr⟩:∃r,m-j=r+1:=⟨m-j-1,Z⟩;rw[hr,wz,mY (by rw[h.lq];exact hj),oD Z,hwn];rw[show m+n-j=(m+n-(j+1))+1 by omega,wz u0,<- h.lo j Z,<- e,show m-(j+1)=r by omega];have h2:wn u j (n+1)=val v*d+wn u j (n+1)%val v:=by rw[hd,oV]
  rw[eW,cV,bU d,cn];omega
def iW(u:List Nat)(s:Nat):Nat->List Nat
 | 0=>[]
 | i+1=>iW u s i++[u.getD i 0/2^s+u.getD (i+1) 0*2^(32-s)%4294967296]
theorem wl(u:List Nat)(s:Nat):∀i,(iW u s i).length=i
 | 0=>rfl
 | i+1=>by simp[iW,wl u s i]
theorem Fd{x s:Nat}(hs:s<32):x*2^(32-s)%4294967296=x%2^s*2^(32-s):=by
 rw[<- rT hs,Nat.mul_mod_mul_right]
theorem Ne{x s:Nat}(hs:s<32)(hx:x<4294967296):x/2^s<2^(32-s):=by
 rw[oW (oY s),bU,rT hs];exact hx
theorem Nd{x y s:Nat}(hs:s<32)(hx:x<4294967296):x/2^s+y*2^(32-s)%4294967296<4294967296:=by
 have h1:=Ne hs hx;have h2:y%2^s<2^s:=io _ (oY s);have h3:(y%2^s+1)*2^(32-s)<=2^s*2^(32-s):=fL _ h2;rw[rT hs,eW] at h3;rw[Fd hs];omega
theorem AK{u:List Nat}{s:Nat}(hu:Dg u)(hs:s<32):∀i,Dg (iW u s i)
 | 0=>ro
 | i+1=>rn (AK hu hs i) (pj (Nd hs (hu i)))
theorem Nc{u:List Nat}{s:Nat}(hs:s<32):∀i,2^s*val (iW u s i)+u.getD 0 0%2^s=wn u 0 i+4294967296^i*(u.getD i 0%2^s)
 | 0=>by simp[iW,val,wn]
 | i+1=>by
  have ih:=Nc (u:=u) hs i;rw[iW,qL,wl,val,val,kh,iw,Fd hs,cV,wn,bj,ij];have e1:4294967296^i*u.getD i 0=4294967296^i*(2^s*(u.getD i 0/2^s)+u.getD i 0%2^s):=by rw[oV]
  have e2:2^s*(4294967296^i*(u.getD i 0/2^s+u.getD (i+1) 0%2^s*2^(32-s)))=4294967296^i*(2^s*(u.getD i 0/2^s))+4294967296^i*4294967296*(u.getD (i+1) 0%2^s):=by
   rw[<- rT hs];generalize (2^s*2^(32-s))^i=p;generalize u.getD (i+1) 0%2^s=y;generalize u.getD i 0/2^s=z;generalize 2^(32-s)=b;generalize 2^s=a;simp only[cV]
   congr 1
   .simp only[qX,bU]
   .simp only[qX,bU]
  rw[e2,e1,cV];omega
theorem KInv.done{v u0 u q a b:List Nat}{n m s:Nat}(hs:s<32)(hu:u0.length=m+n)(h0:val u0=2^s*val a)(hv:val v=2^s*val b)(h:KInv v u0 n m 0 u q) :
  tr q=aB (val a/val b)/\tr (iW u s n)=aB (val a%val b):=by
 have hp:=oY s;have e:=h.eq;have hlt:=h.lt;rw[Nat.sub_zero,Nat.sub_zero,wA u0,gH Z,wA q,gH (by rw[h.lq];omega),h0] at e
 have hd:2^s*val a/(2^s*val b)=val q/\2^s*val a%(2^s*val b)=wn u 0 n:=by
  rw[<- hv];exact qh e.symm hlt
 rw[Nat.mul_div_mul_left _ _ hp] at hd;rw[Nat.mul_mod_mul_left] at hd;rw[jb h.dq,jb (AK h.du hs n),hd.1];refine ⟨rfl,?_⟩;have hr:=Nc (u:=u) hs n;have htop:=h.hi n Z;rw[htop,Nat.zero_mod,kh,iw,<- hd.2] at hr;have hm:u.getD 0 0%2^s<2^s:=io _ hp;have:=(qh (q:=val a%val b) (r:=0) (U:=2^s*(val a%val b)) (V:=2^s) (by rw[bU];rfl) hp).1;have h3:=(qh (q:=val (iW u s n)) (r:=u.getD 0 0%2^s) (U:=2^s*(val a%val b)) (V:=2^s) (by rw[<- hr,bU]) hm).1;rw[<- this,h3]
end Go.Ab
namespace Go.Ab
open Go.Proofs.Tryz
structure NOk (x:NV):Prop where
 dg:Dg x.ds
 len:x.ds.length<2^40
 nil:x.z=true->x.ds=[]
def NV.v(x:NV):Nat:=val x.ds
theorem NOk.fr{x:NV}(h:NOk x):NOk x.fr:=⟨h.dg,h.len,h.nil⟩
theorem qA{o:Own}{n:Nat}(h:(aB n).length<2^40):NOk ⟨false,o,aB n⟩:=⟨eQ n,h,aq⟩
theorem n5{x:NV}(h:NOk x):AP aa 164 [x.av]=some (NV.av ⟨x.z,.no,aB x.v⟩):=by
 rw[nt x (by have:=h.len;omega),jb h.dg];rfl
theorem ra{x y:NV}(hx:NOk x)(hy:NOk y):AP aa 131 [x.av,y.av]=some (.I (fS x.v y.v)):=by
 rw[TN x y (by have:=hx.len;omega) (by have:=hy.len;omega),ZP hx.dg hy.dg];rfl
theorem VG{x y:NV}(hx:NOk x)(hy:NOk y):AP aa 130 [x.av,y.av]=some (NV.av ⟨false,.no,aB (x.v+y.v)⟩):=by
 rw[TM x y hx.len hy.len hx.dg hy.dg,W6 hx.dg hy.dg];rfl
theorem uT{x y:NV}(hx:NOk x)(hy:NOk y):AP aa 127 [x.av,y.av]=some (NV.av ⟨false,.no,aB (x.v*y.v)⟩):=by
 rw[TL x y hx.len hy.len hx.dg hy.dg,qbB hx.dg hy.dg];rfl
def mG(n:Nat):Own:=if n=0 then .full else .no
theorem JA(z:Bool)(o:Own)(n:Nat):og ⟨z,o,aB n⟩=⟨z,mG n,aB n⟩:=by
 unfold og mG;simp only[wq]
theorem Io{z:Bool}{o:Own}{n:Nat}(h:NOk ⟨z,o,aB n⟩):AP aa 163 [NV.av ⟨z,o,aB n⟩]=some (NV.av ⟨z,mG n,aB n⟩):=by
 rw[HM _ h.nil h.len,JA]
theorem qbT{n:Nat}(h:n<18446744073709551616):El n=aB n:=by
 rw[El,jb (jt.2 ⟨io _ Z,pj Z⟩)];congr 1;simp only[val];omega
theorem CD{n:Nat}(h:n<18446744073709551616):AP aa 123 [.U n]=some (NV.av ⟨false,mG n,aB n⟩):=by
 rw[TJ n h,qbT h,JA]
def y8(ds:List Nat):Bool:=decide (ds=aB (val ds))
theorem qdQ{ds:List Nat}(h:ds.length≠0)(h':ds.getD (ds.length-1) 0≠0):tr ds=ds:=by
 obtain ⟨n,hn⟩:∃n,ds.length=n+1:=⟨ds.length-1,Z⟩;rw[hn,kU] at h';rw[tr,hn,ja,ag h',<- hn,List.take_length]
theorem qcP{ds:List Nat}(h:Dg ds):EG ds=y8 ds:=by
 unfold EG y8;rw[<- jb h]
 by_cases h0:ds.length=0
 .have:ds=[]:=List.length_eq_zero_iff.1 h0;subst this
  rfl
 .by_cases h1:ds.getD (ds.length-1) 0=0
  .have hlt:(tr ds).length<ds.length:=by
    obtain ⟨n,hn⟩:∃n,ds.length=n+1:=⟨ds.length-1,Z⟩;rw[hn,kU] at h1;have:=wh ds n;rw[tr,iu,hn,ja,ai h1];omega
   have hne:¬ ds=tr ds:=fun e=>by rw[<- e] at hlt;omega
   rw[eX h0,eX hne,h1];rfl
  .have:=qdQ h0 h1;rw[eT this.symm,eT h1,Bool.or_true]
def qJ(n:Nat):AV:=if n<18446744073709551616 then .tup [.U n,.bool true] else .tup [.U 0,.bool false]
theorem qdf(n:Nat):ow (aB n)=qJ n:=by
 have hv:=fB n;have hd:=eQ n;unfold qJ;generalize he:aB n=l at *
 match l,hv,hd with
 | [],hv,_=>
  simp only[val] at hv;subst hv
  rfl
 | [d],hv,hd=>
  have:=(jt.1 hd).1;simp only[val] at hv;rw[ai Z,ow,<- hv]
  rfl
 | [d,e],hv,hd=>
  have:=(jt.1 hd).1;have:=(jt.1 (jt.1 hd).2).1;simp only[val] at hv;rw[ai Z,ow,<- hv];congr 4;omega
 | d::e::f::l,hv,hd=>
  have hl:2<(aB n).length:=by rw[he];simp
  have:=zh hl
  rw[ag Z,ow]
  .intro h;cases h
  .intro x h;cases h
  .intro x y h;cases h
theorem zA(sh:Sh)(z:Bool)(o:Own)(es:List AV):∀m k,bW m (k+1) (.lst sh z o es)=some (.lst sh z o.fr es,[]):=by
 intro m k;cases o<;>rfl
theorem iR(k:IntKind)(n:Int):∀m j,bW m (j+1) (.int k n)=some (.int k n,[]):=fun _ _=>rfl
theorem J2(b:Bool):∀m j,bW m (j+1) (.bool b)=some (.bool b,[]):=fun _ _=>rfl
theorem ql{a a' b b':AV}(ha:∀m k,bW m (k+1) a=some (a',[]))(hb:∀m k,bW m (k+1) b=some (b',[])):Fz (.tup [a,b]) (.tup [a',b']):=by
 intro m;show (eU (bW m 8) [a,b]).map _=_;simp[eU,ha m 7,hb m 7]
theorem qm{a a' b b' c c':AV}(ha:∀m k,bW m (k+1) a=some (a',[]))(hb:∀m k,bW m (k+1) b=some (b',[]))(hc:∀m k,bW m (k+1) c=some (c',[])):Fz (.tup [a,b,c]) (.tup [a',b',c']):=by
 intro m;show (eU (bW m 8) [a,b,c]).map _=_;simp[eU,ha m 7,hb m 7,hc m 7]
theorem cK{C:Cfg}{f:Nat}{args:List AV}{m:af}(v v':AV)(hf:Fz v v')(hv:gF v'=true)(h:AC C f args []=some (v,m)):AP C f args=some v':=
 fH h (hf m) (by rw[hv,Bool.or_true])
theorem mo(x:NV):∀m k,bW m (k+1) x.av=some (x.fr.av,[]):=zA _ _ _ _
theorem td:∀m k,bW m (k+1) aw=some (aw,[]):=zA _ _ _ _
def tm:AV:=aw
def E3(x y:NV):AV:=if x.v<y.v then .tup [tm,.I 1] else .tup [NV.av ⟨false,.no,aB (x.v-y.v)⟩,.I 0]
theorem Il{x y:NV}(hx:NOk x)(hy:NOk y):AP aa 132 [x.av,y.av]=some (E3 x y):=by
 have hx':=tQ x.ds;have lx:=hx.len;have e1:=n5 hx.fr;have e2:=n5 hy.fr;rw[show x.fr.v=x.v from rfl] at e1;rw[show y.fr.v=y.v from rfl] at e2;have hxl:(aB x.v).length<2^40:=by rw[NV.v,<- jb hx.dg];omega
 unfold E3
 by_cases h:x.v<y.v
 .rw[ai h];refine cK _ _ (ql td (iR _ _)) rfl (m:=[]) ?_;rw[H2,eC (bT x) (bT y),ra hx.fr hy.fr];simp only[aP,O,bg,az,fS];rw[show x.fr.v=x.v from rfl,show y.fr.v=y.v from rfl,ai h,ai Z]
 .rw[ag h];have key:=qdr hx.dg hy.dg (pY h);rw[jb hx.dg,jb hy.dg,AB] at key;refine cK _ _ (ql (mo ⟨false,.no,aB (x.v-y.v)⟩) (iR _ _)) rfl (m:=[none]) ?_;rw[H2,eC (bT x) (bT y),ra hx.fr hy.fr];simp only[aP,O,bg,az,fS];rw[show x.fr.v=x.v from rfl,show y.fr.v=y.v from rfl,ag h,ag (by split<;>omega),b8 (bT x),e1];simp only[aP,O,b8 (bT y),e2,fT];rw[qw Z Z];simp only[O];have:=TB ⟨x.z,.no,aB x.v⟩ ⟨y.z,.no,aB y.v⟩ [] (A6 (aD f132)) hxl (eQ _) (eQ _) (aB x.v).length 0 aq;refine this.trans ?_;rw[Pk];have hm:(jL [] (eZ (aB x.v) (aB y.v) (aB x.v).length).1)[0]?=some (oc (eZ (aB x.v) (aB y.v) (aB x.v).length).1):=rfl;have hp:=qC (cp:=AP aa) (g:=164) hm;rw[tL] at hp;rw[show ([]:af).length=0 from rfl,hp,n5 ⟨tK (eQ _) (eQ _) _,by simp only[tL];exact hxl,aq⟩];simp only[aP,O,NV.v];rw[jb (tK (eQ _) (eQ _) _)] at key;rw[key]
  rfl
theorem TG(x:NV)(d:Nat)(m:af)(K:KT)(hl:x.ds.length<2^40)(dx:Dg x.ds)(hd:0<d)(hd':d<4294967296):∀j k:Nat,k+j=x.ds.length ->
  xM x.av (dg d) (.arr m.length 0 x.ds.length none) (.U (fN x.ds d k).2) (.I ((j:Int)-1)) (m++[oc (fN x.ds d k).1]) K
   = K (.exit 0) (Cd (.arr m.length 0 x.ds.length none) (.U (fN x.ds d x.ds.length).2) (m++[oc (fN x.ds d x.ds.length).1])):=by
 intro j
 induction j with
 | zero=>
  intro k hk;have:k=x.ds.length:=Z;subst this;rw[GG];simp[je,au]
 | succ j ih=>
  intro k hk;have ih:=ih (k+1) Z;have hr:=Aq (a:=x.ds) hd k;have hq:=ER (a:=x.ds) dx hd k j;have hlen:=qH x.ds d k;have hj:=dx j;have ej:x.ds.length-1-k=j:=Z;rw[GG,show ((j+1:Nat):Int)-1=(j:Nat) by omega];simp only[fN,ej] at ih;generalize fN x.ds d k=t at *;simp (disch:=omega) only[vR,O,au,wk,ju,iL,jp,wj,rY,tS,jq];rw[de Z,O,iX hq,kM (sJ ..) Z];simp (disch:=omega) only[O,mZ];rw[nZ _ _ (aI _)];simp only[jQ,cG];exact ih
theorem VP{x:NV}{d:Nat}(hx:NOk x)(hd:0<d)(hd':d<4294967296):AP aa 202 [x.av,dg d]=some (.tup [NV.av ⟨false,.no,aB (x.v/d)⟩,dg (x.v%d)]):=by
 have lx:=hx.len;obtain ⟨k1,k2⟩:=MF hx.dg hd;have hlt:val x.ds%d<d:=io _ hd;refine cK _ _ (ql (mo ⟨false,.no,aB (x.v/d)⟩) (iR _ _)) rfl (m:=[none]) ?_;rw[UR];simp only[fT,O];rw[qw Z Z];simp only[O];rw[mZ Z];simp only[O];have:=TG x d [] (Br (aD f202)) lx hx.dg hd hd' x.ds.length 0 Z;refine this.trans ?_;rw[Ro];have hm:(([]:af)++[oc (fN x.ds d x.ds.length).1])[0]?=some (oc (fN x.ds d x.ds.length).1):=rfl;have hp:=qC (cp:=AP aa) (g:=164) hm;rw[qH] at hp;rw[Ar,jb (tH hx.dg hd _)] at k1;rw[show ([]:af).length=0 from rfl,hp,n5 ⟨tH hx.dg hd _,by simp only[qH];exact lx,aq⟩,k2];simp only[aP,O,NV.v,jq];rw[k1,iX (Nat.lt_trans hlt hd')]
 rfl
theorem TH(x:NV)(s:Nat)(m:af)(K:KT)(hl:x.ds.length<2^40)(dx:Dg x.ds)(hs:s<32):∀j i:Nat,i+j=x.ds.length ->
  xN (.U s) (.arr m.length 0 (x.ds.length+1) none) x.av (.I x.ds.length) (.I i) (m++[oc (gU x.ds s i)]) K
   = K (.exit 0) (Ce (.arr m.length 0 (x.ds.length+1) none) (m++[oc (gU x.ds s x.ds.length)])):=by
 intro j
 induction j with
 | zero=>
  intro i hi;have:i=x.ds.length:=Z;subst this;rw[GH];simp[bg,au]
 | succ j ih=>
  intro i hi;have ih:=ih (i+1) Z;have hlen:=rV x.ds s i;have hd:=dx i;have h1:=EQ (s:=s) dx i Z;have h2:=KR (x:=x.ds.getD i 0) hs;have h3:=Dx (x:=x.ds.getD i 0) (s:=s) hd;have h4:2^s<=2^31:=lF Z Z
  have h6:x.ds.getD i 0*2^s%4294967296%2^s=0:=by
   rw[<- rT hs,bU (2^s),Nat.mul_mod_mul_right,Nat.mul_mod_left]
  rw[GH];simp only[gU] at ih;generalize gU x.ds s i=t at *;simp (disch:=omega) only[bS,O,az,ai,ju,iL,de];rw[nL (sJ ..) Z];simp only[dg,O];rw[M9 hs hd,O,M8 h1 h6 Z,O,kM (sJ ..) Z];simp (disch:=omega) only[O,b6,vn,qd2 hs,AI,jq,de];rw[nZ _ _ (aI _)];simp only[jQ,cG];rw[kM (sJ ..) (by rw[ff];omega),nZ _ _ (aI _)];simp only[jQ,cG,O];rw[iX (by omega:x.ds.getD i 0*2^s/4294967296<4294967296)];exact ih
theorem It{x:NV}{s:Nat}(m:af)(hx:NOk x)(hs:s<32):AC aa 204 [x.av,.U s] m=some (.arr m.length 0 (x.ds.length+1) none,m++[oc (gU x.ds s x.ds.length)]):=by
 have lx:=hx.len;rw[UT];simp only[fT,O];rw[b6 Z,O,qw Z Z];simp only[O];refine (TH x s m _ lx hx.dg hs x.ds.length 0 (by omega)).trans ?_;rw[Rr]
def lz(x:Nat):Nat:=31-Nat.log2 x
theorem qbk{x k:Nat}(h:2^k<=x)(h':x<2^(k+1)):Nat.log2 x=k:=by
 have hx:x≠0:=by have:=oY k;omega
 exact (Nat.log2_eq_iff hx).2 ⟨h,h'⟩
def zN:ByteArray:=tO
theorem qbe(v:AV):nG (.str tO) v=nG (.str zN) v:=rfl
theorem qbd:∀x:Fin 256,(zN[x.1]?).map (fun b=>b.toNat)=some (if x.1=0 then 0 else Nat.log2 x.1+1):=by decide +kernel
theorem zM{x:Nat}(h:0<x)(h':x<256):nG (.str zN) (.int .u8 x)=some (.int .u8 (Nat.log2 x+1:Nat)):=by
 have:=qbd ⟨x,h'⟩;simp only[ag (Nat.pos_iff_ne_zero.1 h)] at this;rw[nG,ai Z,cB]
 cases he:zN[x]? with
 | none=>rw[he] at this;cases this
 | some b=>
  rw[he] at this;simp only[aP,br] at this ⊢;rw[this]
theorem y7{a:Nat}{k:IntKind}(h:a<256):ba .u8 (.int k a)=some (.int .u8 a):=by
 rw[jF,show IntKind.wrap .u8 (a:Int)=(a:Int)%256 from rfl,Int.emod_eq_of_lt Z Z]
theorem y6{a:Nat}{k:IntKind}(h:a<9223372036854775808):ba .i64 (.int k a)=some (.I a):=by
 rw[jF,gz Z Z]
theorem DP{x k:Nat}(h:2^k<=x):Nat.log2 x=Nat.log2 (x/2^k)+k:=by
 have hp:=oY k
 have hy:x/2^k≠0:=by
  have:0<x/2^k:=Nat.div_pos h hp;omega
 have h1:=Nat.log2_self_le hy;have h2:=Nat.lt_log2_self (n:=x/2^k)
 apply qbk
 .rw[mQ];exact (yn hp).1 h1
 .rw[show Nat.log2 (x/2^k)+k+1=Nat.log2 (x/2^k)+1+k by omega,mQ];exact (oW hp).1 h2
theorem qd1{tk:TK}{a:Nat}:ae tk .shr (.int .u32 a) (.U 16)=some (.int .u32 (a/65536:Nat)):=Fa (s:=16) Z
theorem Na{tk:TK}{a:Nat}:ae tk .shr (.int .u32 a) (.U 8)=some (.int .u32 (a/256:Nat)):=Fa (s:=8) Z
theorem zO{x:Nat}(h:x<256):Nat.log2 x<8:=by
 by_cases h0:x=0
 .subst h0;decide
 .exact (Nat.log2_lt h0).2 h
theorem UO{x:Nat}(m:af)(h:0<x)(h':x<4294967296):AC aa 199 [dg x] m=some (.I (Nat.log2 x+1:Nat),m):=by
 have g1:ae .o .geq (dg x) (.int .u32 65536)=some (.bool (decide (x≥65536))):=zW (b:=65536);have g2:∀y:Nat,ae .o .geq (.int .u32 y) (.int .u32 256)=some (.bool (decide (y≥256))):=fun y=>zW (b:=256);have g3:ae .o .geq (dg x) (.int .u32 256)=some (.bool (decide (x≥256))):=zW (b:=256);have a1:ae .o .add (.I 16) (.I 8)=some (.I 24):=rfl;have a2:ae .o .add (.I 0) (.I 8)=some (.I 8):=rfl;have b1:∀y:Nat,y<300->ae .o .add (.I 24) (.I y)=some (.I (24+y:Nat)):=fun y h=>iJ (a:=24) Z;have b2:∀y:Nat,y<300->ae .o .add (.I 16) (.I y)=some (.I (16+y:Nat)):=fun y h=>iJ (a:=16) Z;have b3:∀y:Nat,y<300->ae .o .add (.I 8) (.I y)=some (.I (8+y:Nat)):=fun y h=>iJ (a:=8) Z;have b4:∀y:Nat,y<300->ae .o .add (.I 0) (.I y)=some (.I (0+y:Nat)):=fun y h=>iJ (a:=0) Z;have s1:ae .o .shr (dg x) (.U 16)=some (.int .u32 (x/65536:Nat)):=qd1;have s2:ae .o .shr (dg x) (.U 8)=some (.int .u32 (x/256:Nat)):=Na
 have k0:ba .u8 (dg x)=if x<256 then some (.int .u8 x) else ba .u8 (dg x):=by
  split
  .rename_i h;exact y7 h
  .rfl
 rw[UN];simp only[qbe,g1,g2,g3,a1,a2,s1,s2,O,az,Na]
 by_cases c1:x≥65536
 .rw[ai c1];have e1:=DP (x:=x) (k:=16) Z;rw[show 2^16=65536 from rfl] at e1
  by_cases c2:x/65536≥256
  .rw[ai c2];have e2:=DP (x:=x/65536) (k:=8) Z;rw[show 2^8=256 from rfl] at e2;have l8:=zO (x:=x/65536/256) Z;rw[y7 Z,O,zM Z Z,O,y6 Z,O,b1 _ Z,O];congr 4;omega
  .rw[ag c2];have l8:=zO (x:=x/65536) Z;rw[y7 Z,O,zM Z Z,O,y6 Z,O,b2 _ Z,O];congr 4;omega
 .rw[ag c1]
  by_cases c2:x≥256
  .rw[ai c2];have e2:=DP (x:=x) (k:=8) Z;rw[show 2^8=256 from rfl] at e2;have l8:=zO (x:=x/256) Z;rw[y7 Z,O,zM Z Z,O,y6 Z,O,b3 _ Z,O];congr 4;omega
  .rw[ag c2];have l8:=zO (x:=x) Z;rw[k0,ai Z,O,zM Z Z,O,y6 Z,O,b4 _ Z,O];congr 4;omega
theorem VN{x:Nat}(h:0<x)(h':x<4294967296):AP aa 199 [dg x]=some (.I (Nat.log2 x+1:Nat)):=
 fH (UO [] h h') (ft _ _ _) (by simp[gF])
theorem VQ{x:Nat}(h:0<x)(h':x<4294967296):AP aa 203 [dg x]=some (.I (lz x:Nat)):=by
 have hl:Nat.log2 x<32:=(Nat.log2_lt (by omega)).2 h';refine fH (m:=[]) ?_ (ft _ _ _) (by simp[gF]);rw[US,b8 (a:=dg x) (a':=dg x) (ft .u32 x),VN h h'];simp only[aP,O];have e:ae .o .sub (.I 32) (.I (Nat.log2 x+1:Nat))=some (.I (32-(Nat.log2 x+1):Nat)):=jI (a:=32) Z Z;have e2:32-(Nat.log2 x+1)=lz x:=by rw[lz];omega
 rw[e,e2]
 rfl
end Go.Ab
namespace Go.Ab
open Go.Proofs.Tryz
theorem Wx(v:NV)(u:List Nat)(m:af)(K:KT)(x9 x13:AV)(nu L n j top v1 v2 u0 p lo vlo q:Nat)
  (hn:v.ds.length=n) (hn2:2<=n) (hm:m[nu]?=some (oc u)) (hL:u.length=L) (hL':L<2^42) (hjn:j+n<L) (du:Dg u) (dv:Dg v.ds)
  (e1:v.ds.getD (n-1) 0=v1) (e2:v.ds.getD (n-2) 0=v2) (e3:u.getD (j+n-2) 0=u0)
  (hv1:2147483648<=v1) (htop:top<=v1*4294967296+4294967295) (hlo:lo<p) (hvlo:vlo<p)
  (hq:q=((top*4294967296+u0)*p+lo)/((v1*4294967296+v2)*p+vlo)) (hqB:q<4294967296) :
  ∀k g r:Nat,4294967296<=r+k*v1->r<4294967296->g*v1+r=top->q<=g ->
  ∃g',q<=g'/\g'<4294967296/\g'*((v1*4294967296+v2)*p+vlo)<((top*4294967296+u0)*p+lo)+((v1*4294967296+v2)*p+vlo) /\
   sC x9 (.arr nu 0 L none) v.av (.I n) x13 (.I j) (.U g) (.U r) m K
    = K (.exit 3) (qY x9 (.arr nu 0 L none) v.av (.I n) x13 (.I j) (.U g') m):=by
 have hv1':v1<4294967296:=e1▸dv (n-1);have hv2':v2<4294967296:=e2▸dv (n-2);have hu0':u0<4294967296:=e3▸du (j+n-2);intro k
 induction k with
 | zero=>intro g r h1 h2;omega
 | succ k ih=>
  intro g r h1 h2 h3 h4
  have hgB:g<4294967296+2:=by
   have:g*v1<(4294967296+2)*v1:=Z;exact yo this
  have hgv:g*v2<=4294967297*4294967295:=mP Z Z
  have dec:q<g->∃g',q<=g'/\g'<4294967296/\g'*((v1*4294967296+v2)*p+vlo)<((top*4294967296+u0)*p+lo)+((v1*4294967296+v2)*p+vlo) /\
    (if r+v1≥4294967296 then K (.exit 3) (qY x9 (.arr nu 0 L none) v.av (.I n) x13 (.I j) (.U (g-1:Nat)) m)
     else sC x9 (.arr nu 0 L none) v.av (.I n) x13 (.I j) (.U (g-1:Nat)) (.U (r+v1:Nat)) m K)
    = K (.exit 3) (qY x9 (.arr nu 0 L none) v.av (.I n) x13 (.I j) (.U g') m):=by
   intro hqg;obtain ⟨g1,hg1⟩:∃g1,g=g1+1:=⟨g-1,Z⟩;subst hg1;rw[eW,jP] at h3;rw[kU]
   by_cases hb:r+v1≥4294967296
   .rw[ai hb]
    have hlt:g1<4294967296:=by
     have:g1*v1<4294967296*v1:=Z;exact yo this
    refine ⟨g1,Z,hlt,?_,rfl⟩;have h5:g1*v2<=4294967296*4294967295:=mP Z Z;exact Ke (r:=r+v1) (top:=top) (u0:=u0) Z Z hlt hvlo Z rfl rfl
   .rw[ag hb];rw[eW] at h1;exact ih g1 (r+v1) Z Z Z Z
  rw[TE];simp (disch:=omega) only[qbD,O,az,AJ,lh,ju,iL,jp,j0,e1]
  by_cases c1:g≥4294967296
  .rw[ai c1];exact dec Z
  .rw[ag c1];simp (disch:=omega) only[Kg,O,ju,iL,e2]
   rw[jp v2 hv2',O,wi Z,O,wk Z,O,iJ Z,O,Kg Z Z,O,de Z,O,
    nL hm Z,O,e3,jp u0 hu0',O,wj Z Z,O,tj,O,az]
   by_cases c2:g*v2>r*4294967296+u0
   .have hqg:=qaH (q:=q) (vlo:=vlo) h3 c2 hlo (by rw[hq];exact ym _ _);rw[ai c2,AJ Z Z,O];exact dec hqg
   .rw[ag c2];exact ⟨g,h4,Z,Ke h3 (pY c2) Z hvlo Z rfl rfl,rfl⟩
theorem Wy(v:NV)(u:List Nat)(m0:af)(K:KT)(x9 x13:AV)(nu L n j g:Nat)
  (hn:v.ds.length=n) (hm:m0[nu]?=some (oc u)) (hL:u.length=L) (hL':L<2^42) (hjn:j+n<L) (du:Dg u) (dv:Dg v.ds) (hg:g<4294967296):∀r i:Nat,i+r=n ->
  uv x9 (.arr nu 0 L none) v.av (.I n) x13 (.I j) (.U g) (.U (gE v.ds g j i u).2.1) (.U (gE v.ds g j i u).2.2) (.I n) (.I i) (m0.set nu (oc (gE v.ds g j i u).1)) K
   = K (.exit 5) (B8 x9 (.arr nu 0 L none) v.av (.I n) x13 (.I j) (.U g) (.U (gE v.ds g j n u).2.1) (.U (gE v.ds g j n u).2.2) (m0.set nu (oc (gE v.ds g j n u).1))):=by
 have hnu:nu<m0.length:=by
  apply lT;intro h;rw[kT Z] at hm;cases hm
 intro r
 induction r with
 | zero=>
  intro i hi;have:i=n:=Z;subst this;rw[Gz];simp[bg,au]
 | succ r ih=>
  intro i hi;have ih:=ih (i+1) Z;have hlen:=vO v.ds g j u i;have hb:=vN v.ds g j u i;have hc:=zU dv hg j u i;have hd:=zV (v:=v.ds) (g:=g) du j i (i+j);have hvd:=dv i;have hgv:g*v.ds.getD i 0<=4294967295*4294967295:=mP Z Z;have s1:ae .o .shl (.U 1) (.U 32)=some (.U (4294967296:Nat)):=rfl;have s0:ae .o .shl (.U 0) (.U 32)=some (.U (0:Nat)):=rfl;rw[Gz];simp only[gE] at ih;generalize gE v.ds g j i u=t at *;obtain ⟨t,b,c⟩:=t;simp only[] at *;have hget:(m0.set nu (oc t))[nu]?=some (oc t):=pV hnu;simp (disch:=omega) only[bS,O,az,ai,ju,iL,jp,wi,j0,qd3,iJ,de,nL hget,AI,b6]
  by_cases h:t.getD (i+j) 0<(c+g*v.ds.getD i 0)%4294967296+b
  .rw[ai h];rw[ai h] at ih;rw[s1,O,j0 Z,O,rZ Z Z,O,jq,O,iX Z,kM hget Z,oU];exact ih
  .rw[ag h];rw[ag h] at ih;rw[s0,O,j0 Z,O,rZ Z Z,O,jq,O,iX Z,kM hget Z,oU];exact ih
theorem Wz(v:NV)(u:List Nat)(m0:af)(K:KT)(x9 x13 x16:AV)(nu L n j:Nat)
  (hn:v.ds.length=n) (hm:m0[nu]?=some (oc u)) (hL:u.length=L) (hL':L<2^42) (hjn:j+n<L) (du:Dg u) (dv:Dg v.ds):∀r i:Nat,i+r=n ->
  xI x9 (.arr nu 0 L none) v.av (.I n) x13 (.I j) x16 (.U (iy v.ds j i u).2) (.I n) (.I i) (m0.set nu (oc (iy v.ds j i u).1)) K
   = K (.exit 7) (B9 x9 (.arr nu 0 L none) v.av (.I n) x13 (.I j) x16 (.U (iy v.ds j n u).2) (m0.set nu (oc (iy v.ds j n u).1))):=by
 have hnu:nu<m0.length:=by
  apply lT;intro h;rw[kT Z] at hm;cases hm
 intro r
 induction r with
 | zero=>
  intro i hi;have:i=n:=Z;subst this;rw[GB];simp[bg,au]
 | succ r ih=>
  intro i hi;have ih:=ih (i+1) Z;have hlen:=uY v.ds j u i;obtain ⟨hd,hc⟩:=yU dv du j i;have hd:=hd (i+j);have hvd:=dv i;rw[GB];simp only[iy] at ih;generalize iy v.ds j i u=t at *;obtain ⟨t,c⟩:=t;simp only[] at *;have hget:(m0.set nu (oc t))[nu]?=some (oc t):=pV hnu;simp (disch:=omega) only[bS,O,az,ai,ju,iL,jp,j0,iJ,de,nL hget,AI,b6,jq,kM hget,oU];exact ih
theorem qd4{tk:TK}{t y:Nat}(ht:t<4294967296)(hy:y<=4294967296):∃w,ae tk .sub (.U t) (.U y)=some w/\ba .u32 w=some (.int .u32 ((t+4294967296-y)%4294967296:Nat)):=by
 refine ⟨_,mh _ _ _ _,?_⟩;rw[jF,qO,Nm];congr 2;omega
theorem qaX{v u:List Nat}{n j:Nat}(hv:Dg v)(hu:Dg u)(hn:v.length=n)(hn2:2<=n) :
  val v=(v.getD (n-1) 0*4294967296+v.getD (n-2) 0)*4294967296^(n-2)+vs v (n-2) /\
  wn u j (n+1)=((u.getD (j+n) 0*4294967296+u.getD (j+n-1) 0)*4294967296+u.getD (j+n-2) 0)*4294967296^(n-2)+wn u j (n-2):=by
 obtain ⟨k,rfl⟩:∃k,n=k+2:=⟨n-2,Z⟩;have e1:k+2-1=k+1:=Z;have e2:k+2-2=k:=Z;have e3:j+(k+2)-1=j+(k+1):=Z;have e4:j+(k+2)-2=j+k:=Z;rw[e1,e2,e3,e4]
 constructor
 .rw[<- gH (Nat.le_of_eq hn),hJ,hJ,ij,eW,bU (4294967296^k) (v.getD k 0),bU (4294967296^k*4294967296),bU (4294967296^k),cn];omega
 .rw[wn,wn,wn,ij (m:=k+1),ij];rw[eW,eW,eW,bU (4294967296^k) (u.getD (j+k) 0),bU (4294967296^k*4294967296) (u.getD (j+(k+1)) 0),bU (4294967296^k*4294967296*4294967296),bU (4294967296^k),];generalize 4294967296^k=p;have h1:u.getD (j+(k+1)) 0*(4294967296*p)=u.getD (j+(k+1)) 0*4294967296*p:=(cn _ _ _).symm
  have h2:u.getD (j+(k+2)) 0*(4294967296*p*4294967296)=u.getD (j+(k+2)) 0*4294967296*4294967296*p:=by
   rw[Nat.mul_right_comm 4294967296 p,<- cn,<- cn]
  rw[h1,h2];omega
theorem qaW{v u0 u q:List Nat}{n m j:Nat}(hv:Dg v)(hn:v.length=n)(hn2:2<=n)(h:KInv v u0 n m (j+1) u q) :
  u.getD (j+n) 0<=v.getD (n-1) 0/\wn u j (n+1)/val v<4294967296/\0<val v:=by
 have hlt:=h.lt;have hp:0<val v:=Z;obtain ⟨k,rfl⟩:∃k,n=k+1:=⟨n-1,Z⟩;have hV:val v=vs v k+4294967296^k*v.getD k 0:=by rw[<- gH (Nat.le_of_eq hn),hJ]
 have h1:=qN hv k
 refine ⟨?_,?_,hp⟩
 .rw[kU];rw[wn,show j+1+k=j+(k+1) by omega] at hlt;apply pY;intro hc;have:4294967296^k*(v.getD k 0+1)<=4294967296^k*u.getD (j+(k+1)) 0:=iF _ hc;rw[cV] at this;omega
 .rw[oW hp,wz];have h2:=h.du j;omega
theorem qag{top u0 v1 v2 p lo vlo:Nat}(hv1:0<v1)(hlo:lo<p)(hu:u0<4294967296) :
  ((top*4294967296+u0)*p+lo)/((v1*4294967296+v2)*p+vlo)<=top/v1:=by
 have h:=ym ((top*4294967296+u0)*p+lo) ((v1*4294967296+v2)*p+vlo);generalize ((top*4294967296+u0)*p+lo)/((v1*4294967296+v2)*p+vlo)=q at *;rw[yn hv1]
 have h1:(top*4294967296+u0)*p+lo<(top+1)*4294967296*p:=by
  have:(top*4294967296+u0+1)*p<=(top+1)*4294967296*p:=fL _ Z;rw[eW _ 1,jP] at this;omega
 have h2:q*v1*4294967296*p<=q*((v1*4294967296+v2)*p+vlo):=by
  rw[cn q,cn q];exact iF _ (eP (fL _ (Nat.le_add_right _ _)) (Nat.le_add_right _ _))
 have h3:q*v1*4294967296*p<(top+1)*4294967296*p:=Z;have h4:=yo (yo h3);omega
def M3(u q:List Nat):af:=[oc u,none,oc q]
theorem Ww(v:NV)(u0:List Nat)(K:KT)(x9:AV)(L n mm:Nat)
  (hn:v.ds.length=n) (hn2:2<=n) (dv:Dg v.ds) (hL:L=mm+n) (hL':L<2^42) (hv1:2147483648<=v.ds.getD (n-1) 0):∀(j:Nat) (u q:List Nat),j<=mm->KInv v.ds u0 n mm j u q ->
  ∃u' q',KInv v.ds u0 n mm 0 u' q'/\uu x9 (.arr 0 0 L none) v.av (.I n) (.arr 2 0 mm none) (.I ((j:Int)-1)) (M3 u q) K
   = K (.exit 1) (B7 x9 (.arr 0 0 L none) (.I n) (.arr 2 0 mm none) (M3 u' q')):=by
 intro j
 induction j with
 | zero=>
  intro u q _ hI;refine ⟨u,q,hI,?_⟩;rw[Gy];simp[je,au]
 | succ j ih=>
  intro u q hj hI;have hu:=hI.du;have hlu:=hI.lu;have hlq:=hI.lq;obtain ⟨p1,p2,p3⟩:=qaW dv hn hn2 hI;obtain ⟨t1,t2⟩:=qaX (j:=j) dv hu hn hn2;have d1:=hu (j+n);have d2:=hu (j+n-1);have d3:=dv (n-1);have hget:(M3 u q)[0]?=some (oc u):=rfl;have hVp:=p3;rw[Gy,show ((j+1:Nat):Int)-1=(j:Nat) by omega];simp (disch:=omega) only[vR,O,au,iJ,de,nL hget,jp,wk,lh,wj,ju,iL,rY,tS];have hvs:=qN dv (n-2);have hws:=sc hu j (n-2);have hdm:=oV (u.getD (j+n) 0*4294967296+u.getD (j+n-1) 0) (v.ds.getD (n-1) 0);have hrm:(u.getD (j+n) 0*4294967296+u.getD (j+n-1) 0)%v.ds.getD (n-1) 0<v.ds.getD (n-1) 0:=io _ Z;have hq:wn u j (n+1)/val v.ds=(((u.getD (j+n) 0*4294967296+u.getD (j+n-1) 0)*4294967296+u.getD (j+n-2) 0)*4294967296^(n-2)+wn u j (n-2))/((v.ds.getD (n-1) 0*4294967296+v.ds.getD (n-2) 0)*4294967296^(n-2)+vs v.ds (n-2)):=by rw[t1,t2]
  have hle:u.getD (j+n) 0*4294967296+u.getD (j+n-1) 0<=v.ds.getD (n-1) 0*4294967296+4294967295:=Z;have h0:4294967296<=(u.getD (j+n) 0*4294967296+u.getD (j+n-1) 0)%v.ds.getD (n-1) 0+2*v.ds.getD (n-1) 0:=Z;have h1:(u.getD (j+n) 0*4294967296+u.getD (j+n-1) 0)%v.ds.getD (n-1) 0<4294967296:=Z;have h2:(u.getD (j+n) 0*4294967296+u.getD (j+n-1) 0)/v.ds.getD (n-1) 0*v.ds.getD (n-1) 0+(u.getD (j+n) 0*4294967296+u.getD (j+n-1) 0)%v.ds.getD (n-1) 0=u.getD (j+n) 0*4294967296+u.getD (j+n-1) 0:=by rw[bU];exact hdm
  have h3:wn u j (n+1)/val v.ds<=(u.getD (j+n) 0*4294967296+u.getD (j+n-1) 0)/v.ds.getD (n-1) 0:=by
   rw[t1,t2];exact qag Z hws (hu _)
  obtain ⟨g,g1,g2,g3,g4⟩:=Wx v u (M3 u q) (Bl K) x9 (.arr 2 0 mm none) 0 L n j (u.getD (j+n) 0*4294967296+u.getD (j+n-1) 0) (v.ds.getD (n-1) 0) (v.ds.getD (n-2) 0) (u.getD (j+n-2) 0) (4294967296^(n-2)) (wn u j (n-2)) (vs v.ds (n-2))
   (wn u j (n+1)/val v.ds) hn hn2 hget Z hL' Z hu dv rfl rfl rfl hv1 hle hws hvs hq p2 2 ((u.getD (j+n) 0*4294967296+u.getD (j+n-1) 0)/v.ds.getD (n-1) 0) ((u.getD (j+n) 0*4294967296+u.getD (j+n-1) 0)%v.ds.getD (n-1) 0) h0 h1 h2 h3
  rw[<- t1,<- t2] at g3;obtain ⟨s1,s2,s3,s4,s5⟩:=qaV dv hu hn Z g2 p3 g1 g3;have hI':=KInv.step dv hn Z hI s1 s2 s3 s4 s5 p3;have hdB:=hI'.dq j;have hlq':=hI'.lq;rw[mY Z] at hdB;obtain ⟨u',q',i1,i2⟩:=ih _ _ Z hI';refine ⟨u',q',i1,g4.trans ?_⟩;rw[QU];have m0:=Wy v u (M3 u q) (Bm K) x9 (.arr 2 0 mm none) 0 L n j g hn hget Z hL' Z hu dv g2 n 0 Z
  refine Eq.trans ?_ (m0.trans ?_)
  .rfl
  rw[QZ];have hb:=vN v.ds g j u n;have hc:=zU dv g2 j u n;have hd:=zV (v:=v.ds) (g:=g) hu j n;have hl:=vO v.ds g j u n;have hwn0:=D3 (v:=v.ds) (g:=g) hu j n Z;unfold rC at i2 hdB;simp only[] at i2 hdB;generalize gE v.ds g j n u=t at *;obtain ⟨t,b,c⟩:=t;simp only[] at *;have hM:(M3 u q).set 0 (oc t)=M3 t q:=rfl;have hget2:(M3 t q)[0]?=some (oc t):=rfl;have hset2:∀l r:List Nat,(M3 l q).set 0 (oc r)=M3 r q:=fun _ _=>rfl;have hget3:∀l r:List Nat,(M3 l r)[2]?=some (oc r):=fun _ _=>rfl;have hset3:∀l r p:List Nat,(M3 l r).set 2 (oc p)=M3 l p:=fun _ _ _=>rfl;rw[hM];have hd4:=hd (j+n);obtain ⟨w,w1,w2⟩:=qd4 (tk:=.o) (t:=t.getD (j+n) 0) (y:=c+b) hd4 Z;simp (disch:=omega) only[j0,O,iJ,de,nL hget2,jp,bS,w1,w2,kM hget2,hset2];rw[az]
  by_cases hc1:t.getD (j+n) 0<c+b
  .rw[ai hc1];rw[ai hc1] at i2 hdB;have hd5:Dg (t.set (j+n) (t.getD (j+n) 0+4294967296-(c+b))):=hd.set _ _ Z;have m1:=Wz v (t.set (j+n) (t.getD (j+n) 0+4294967296-(c+b))) (M3 (t.set (j+n) (t.getD (j+n) 0+4294967296-(c+b))) q) (Bn K) x9 (.arr 2 0 mm none) (.U (g-1:Nat)) 0 L n j hn rfl (by rw[ff];omega) hL' Z hd5 dv n 0 Z;have ha:=yU dv hd5 j n;have hal:=uY v.ds j (t.set (j+n) (t.getD (j+n) 0+4294967296-(c+b))) n
   have hg0:0<g:=by
    apply kD;intro e0;rw[e0,p5,iw] at hwn0;have hlt:=sc hd j n;have h9:4294967296^n*1<=4294967296^n*(c+b):=iF _ Z;omega
   rw[show (t.getD (j+n) 0+4294967296-(c+b))%4294967296=t.getD (j+n) 0+4294967296-(c+b) by omega,AJ Z Z,O];rw[ff] at hal
   refine Eq.trans ?_ (m1.trans ?_)
   .rfl
   generalize iy v.ds j n (t.set (j+n) (t.getD (j+n) 0+4294967296-(c+b)))=w at *;obtain ⟨w,x⟩:=w;simp only[] at *;obtain ⟨a1,a2⟩:=ha;rw[hset2,Q5];have hget4:(M3 w q)[0]?=some (oc w):=rfl
   rw[iJ Z,O,de Z,O,nL hget4 Z,O,jq,O,iX (by omega:x<4294967296),dg,qdZ,O,O,
    kM hget4 Z,hset2,O,jq,O,de Z,O,kM (hget3 _ _) Z,hset3,O,mZ Z,O]
   rw[iX (by omega:g-1<4294967296)];exact i2
  .rw[ag hc1];rw[ag hc1] at i2 hdB;rw[jq,O,kM (hget3 _ _) Z,hset3,O,mZ Z,O];rw[show (t.getD (j+n) 0+4294967296-(c+b))%4294967296=t.getD (j+n) 0-(c+b) by omega,iX g2];exact i2
theorem WA(u q:List Nat)(K:KT)(x13:AV)(s L n:Nat)(du:Dg u)(hL:u.length=L)(hL':L<2^42)(hn:n<L)(hs:s<32):∀r i:Nat,i+r=n ->
  uw (.U s) (.arr 0 0 L none) x13 (.arr 3 0 n none) (.I n) (.I i) (M3 u q++[oc (iW u s i++List.replicate r 0)]) K
   = K (.exit 9) (Ca x13 (.arr 3 0 n none) (M3 u q++[oc (iW u s n)])):=by
 intro r
 induction r with
 | zero=>
  intro i hi;have:i=n:=Z;subst this;rw[GC];simp[bg,au]
 | succ r ih=>
  intro i hi;have ih:=ih (i+1) Z;have hlen:=wl u s i;have hd1:=du i;have hd2:=du (i+1);have b1:=Ne hs hd1;have b2:=Nd (y:=u.getD (i+1) 0) hs hd1;have b3:u.getD (i+1) 0*2^(32-s)%4294967296%2^(32-s)=0:=by rw[Fd hs,Nat.mul_mod_left]
  have hget0:∀l,(M3 u q++[oc l])[0]?=some (oc u):=fun _=>rfl;have hget3:∀l,(M3 u q++[oc l])[3]?=some (oc l):=fun _=>rfl;have hset3:∀l l',(M3 u q++[oc l]).set 3 (oc l')=M3 u q++[oc l']:=fun _ _=>rfl
  have hrow:∀x,(iW u s i++List.replicate (r+1) 0).set i x=iW u s i++x::List.replicate r 0:=by
   intro x;rw[nZ _ _ Z,hlen,jQ,sQ,cG]
  have hrow2:∀x y,(iW u s i++x::List.replicate r 0).set i y=iW u s i++y::List.replicate r 0:=by
   intro x y;rw[nZ _ _ Z,hlen,jQ,cG]
  have hrow3:∀x,(iW u s i++x::List.replicate r 0).getD i 0=x:=by
   intro x;rw[aK,ma Z,hlen,jQ]
   rfl
  have hl1:i<(iW u s i++List.replicate (r+1) 0).length:=by rw[aQ,hlen,oP];omega
  have hl2:∀x,i<(iW u s i++x::List.replicate r 0).length:=by intro x;rw[aQ,hlen,a8,oP];omega
  rw[iW,bE,cc,bX] at ih
  rw[GC,bS,O,az,ai Z,de Z,O,nL (hget0 _) Z,O,dg,Fa hs,O,de Z,O,
   kM (hget3 _) hl1,hset3,hrow,O,pA,O,az]
  by_cases h0:s>0
  .rw[ai h0];have e32:ae .o .sub (.U 32) (.U s)=some (.U (32-s:Nat)):=rZ (a:=32) Z Z
   rw[O,nL (hget3 _) (hl2 _),O,hrow3,b6 Z,O,de Z,O,nL (hget0 _) Z,O,e32,O,dg,dg,M9 Z hd2,O,
    M8 b1 b3 b2,O,O,kM (hget3 _) (hl2 _),hset3,hrow2,O,O]
   exact ih
  .rw[ag h0,b6 Z,O];have hs0:s=0:=Z;subst hs0;rw[show u.getD (i+1) 0*2^(32-0)%4294967296=0 from Nat.mul_mod_left _ _,iw] at ih;exact ih
end Go.Ab
namespace Go.Ab
open Go.Proofs.Tryz
def iZ(x y:NV):NV:=if x.v<y.v then ⟨true,.full,[]⟩ else ⟨false,.no,aB (x.v/y.v)⟩
def kF(x y:NV):NV:=if x.v<y.v then ⟨x.z,mG x.v,aB x.v⟩ else if y.v<4294967296 then ⟨false,mG (x.v%y.v),aB (x.v%y.v)⟩ else ⟨false,.no,aB (x.v%y.v)⟩
theorem zi(x y:NV):(iZ x y).ds=aB (x.v/y.v):=by
 unfold iZ
 split
 .rename_i h;rw[sR h,jg]
 .rfl
theorem zj(x y:NV):(kF x y).ds=aB (x.v%y.v):=by
 unfold kF
 split
 .rename_i h;rw[iX h]
 .split<;>rfl
theorem iQ{a b:Nat}(h:a<=b):(aB a).length<=(aB b).length:=by
 have:=jA (eQ b);rw[fB] at this;exact kE (im h this)
theorem NOk.v_len{x:NV}(h:NOk x):(aB x.v).length<=x.ds.length:=JJ h.dg
theorem NOk.v_len'{x:NV}(h:NOk x):(aB x.v).length<2^40:=im h.v_len h.len
theorem NOk.z_v{x:NV}(h:NOk x):x.z=true->aB x.v=[]:=by
 intro hz;rw[NV.v,h.nil hz];exact jg
theorem JL{x y:NV}(hx:NOk x):NOk (iZ x y):=by
 refine ⟨by rw[zi];exact eQ _,?_,?_⟩
 .rw[zi];exact im (iQ (qW _ _)) hx.v_len'
 .unfold iZ
  split
  .intro _;rfl
  .intro h;cases h
theorem Z1{x y:NV}(hx:NOk x):NOk (kF x y):=by
 refine ⟨by rw[zj];exact eQ _,?_,?_⟩
 .rw[zj];exact im (iQ (Nat.mod_le _ _)) hx.v_len'
 .unfold kF
  split
  .exact hx.z_v
  .split<;>(intro h;cases h)
theorem Ac(n:Nat):(mG n).fr=mG n:=by unfold mG;split<;>rfl
theorem vt(x y:NV):(iZ x y).fr=iZ x y:=by unfold iZ;split<;>rfl
theorem zk(x y:NV):(kF x y).fr=kF x y:=by
 unfold kF
 split
 .simp only[NV.fr,Ac]
 .split
  .simp only[NV.fr,Ac]
  .rfl
theorem C7(x y:NV):(kF x y).v=x.v%y.v:=by rw[NV.v,zj,fB]
def zm(x y:NV):AV:=if y.v=0 then .tup [tm,tm,.I 31] else .tup [(iZ x y).av,(kF x y).av,.I 0]
theorem jT{n:Nat}:(aB n).length=0↔n=0:=by rw[List.length_eq_zero_iff];exact wq
theorem ze{n:Nat}:(aB n).length=1↔n≠0/\n<4294967296:=by
 constructor
 .intro h;have h1:=jA (eQ n);rw[fB,h] at h1;exact ⟨fun e=>by rw[e,jg] at h;simp at h,by simpa using h1⟩
 .intro ⟨h,h'⟩;have h1:=kE (k:=1) (n:=n) (by simpa using h');have h2:(aB n).length≠0:=fun e=>h (jT.1 e);omega
theorem zd{n:Nat}(h:n≠0):(aB n).getD ((aB n).length-1) 0≠0:=by
 intro e;have h1:y8 (aB n)=true:=by rw[y8,fB];exact eT rfl
 rw[<- qcP (eQ n),EG] at h1;have h2:¬ (aB n).length=0:=fun e=>h (jT.1 e);rw[e] at h1;simp[h2] at h1
theorem KW{t:Nat}(h:0<t)(h':t<4294967296):lz t<32/\2147483648<=t*2^lz t/\t*2^lz t<4294967296:=by
 have hl:Nat.log2 t<32:=(Nat.log2_lt (by omega)).2 h';have h1:=Nat.log2_self_le (n:=t) Z;have h2:=Nat.lt_log2_self (n:=t);unfold lz;generalize Nat.log2 t=k at *;have e:2^k*2^(31-k)=2147483648:=by rw[<- mQ,show k+(31-k)=31 by omega]
 have e2:2^(k+1)*2^(31-k)=4294967296:=by rw[<- mQ,show k+1+(31-k)=32 by omega]
 refine ⟨Z,?_,?_⟩
 .rw[<- e];exact fL _ h1
 .rw[<- e2];exact Nat.mul_lt_mul_of_pos_right h2 (oY _)
theorem qda{b:Nat}{n:Nat}(hn:(aB b).length=n)(hn2:1<=n)(hs:lz ((aB b).getD (n-1) 0)<32) :
  (aB (2^lz ((aB b).getD (n-1) 0)*b)).length=n/\2147483648<=(aB (2^lz ((aB b).getD (n-1) 0)*b)).getD (n-1) 0:=by
 have hb:b≠0:=by intro e;rw[e,jg] at hn;simp at hn;omega
 have hlast:=zd hb;rw[hn] at hlast;have hd:=eQ b (n-1);obtain ⟨s1,s2,s3⟩:=KW (kD hlast) hd;obtain ⟨k,rfl⟩:∃k,n=k+1:=⟨n-1,Z⟩;rw[kU] at *;have hv:b=vs (aB b) k+4294967296^k*(aB b).getD k 0:=by rw[<- hJ,gH (Nat.le_of_eq hn),fB]
 have hlo:=qN (eQ b) k;generalize (aB b).getD k 0=t at *;generalize vs (aB b) k=l at *;generalize lz t=s at *;have hp:=oY s
 have hlt:2^s*b<4294967296^(k+1):=by
  have h1:b<4294967296^k*(t+1):=by rw[cV];omega
  have h4:(t+1)*2^s<=4294967296:=by
   have hpw:2^s*2^(32-s)=4294967296:=rT s1;rw[<- hpw,bU] at s3 ⊢;have:=Nat.lt_of_mul_lt_mul_left s3;exact iF _ this
  have h2:2^s*b<2^s*(4294967296^k*(t+1)):=Nat.mul_lt_mul_of_pos_left h1 hp;have h3:2^s*(4294967296^k*(t+1))=4294967296^k*((t+1)*2^s):=by rw[qX,bU (2^s)]
  have h5:4294967296^k*((t+1)*2^s)<=4294967296^k*4294967296:=iF _ h4;rw[ij];omega
 have hge:4294967296^k*(t*2^s)<=2^s*b:=by
  rw[bU t,qX];exact iF _ Z
 have hlen1:=kE hlt
 have hlen2:k<(aB (2^s*b)).length:=by
  apply lT;intro hc;have h1:=jA (eQ (2^s*b));rw[fB] at h1;have h2:4294967296^(aB (2^s*b)).length<=4294967296^k:=lF Z Z;have h3:4294967296^k*1<=4294967296^k*(t*2^s):=iF _ Z;omega
 refine ⟨Z,?_⟩;have hv2:2^s*b=vs (aB (2^s*b)) k+4294967296^k*(aB (2^s*b)).getD k 0:=by rw[<- hJ,gH Z,fB]
 have hlo2:=qN (eQ (2^s*b)) k;generalize (aB (2^s*b)).getD k 0=y at *;generalize vs (aB (2^s*b)) k=l2 at *;apply lT;intro hc;have h1:4294967296^k*(y+1)<=4294967296^k*(t*2^s):=iF _ Z;rw[cV] at h1;omega
theorem qa4{v u0:List Nat}{n m:Nat}(du:Dg u0)(hu:u0.length=m+n)(hlt:wn u0 m n<val v):KInv v u0 n m m u0 (List.replicate m 0) where
 du:=du
 lu:=hu
 dq:=rp m
 lq:=oP
 hi:=by
  intro k hk;exact ry Z
 lo:=fun _ _=>rfl
 lt:=hlt
 eq:=by rw[jQ,wn,p5,bj,Nat.add_sub_cancel_left]
theorem qdO{u v:List Nat}{n m:Nat}(hu:Dg u)(hn:v.length=n)(hn2:1<=n)(h:u.getD (m+n-1) 0<v.getD (n-1) 0):wn u m n<val v:=by
 obtain ⟨k,rfl⟩:∃k,n=k+1:=⟨n-1,Z⟩;rw[kU,show m+(k+1)-1=m+k by omega] at h;have h1:=sc hu m k;have h2:4294967296^k*(u.getD (m+k) 0+1)<=4294967296^k*v.getD k 0:=iF _ h;rw[wn,<- gH (Nat.le_of_eq hn),hJ];rw[cV] at h2;omega
theorem CE{x y:NV}(hx:NOk x)(hy:NOk y):AP aa 187 [x.av,y.av]=some (zm x y):=by
 have lx:=hx.v_len';have ly:=hy.v_len';have hX:NOk ⟨x.z,.no,aB x.v⟩:=⟨eQ _,lx,hx.z_v⟩;have hY:NOk ⟨y.z,.no,aB y.v⟩:=⟨eQ _,ly,hy.z_v⟩;have e1:=n5 hx.fr;have e2:=n5 hy.fr;rw[show x.fr.v=x.v from rfl,show x.fr.z=x.z from rfl] at e1;rw[show y.fr.v=y.v from rfl,show y.fr.z=y.z from rfl] at e2;have e3:=ra hX hY;have vX:(NV.mk x.z .no (aB x.v)).v=x.v:=fB _;have vY:(NV.mk y.z .no (aB y.v)).v=y.v:=fB _;rw[vX,vY] at e3;have fX:=bT ⟨x.z,.no,aB x.v⟩;have fY:=bT ⟨y.z,.no,aB y.v⟩;rw[show (NV.mk x.z .no (aB x.v)).fr=⟨x.z,.no,aB x.v⟩ from rfl] at fX;rw[show (NV.mk y.z .no (aB y.v)).fr=⟨y.z,.no,aB y.v⟩ from rfl] at fY;unfold zm
 by_cases h0:y.v=0
 .rw[ai h0];refine cK _ _ (qm td td (iR _ _)) rfl (m:=[]) ?_;rw[yJ,b8 (bT x),e1,aP,O,b8 (bT y),e2,aP,O,fT,O,kH,O,az,ai (jT.2 h0)]
 .rw[ag h0];have hn0:¬ (aB y.v).length=0:=fun e=>h0 (jT.1 e)
  by_cases h1:x.v<y.v
  .have hc:fS x.v y.v<0:=by unfold fS;rw[ai h1];omega
   refine cK _ _ (qm (mo (iZ x y)) (mo (kF x y)) (iR _ _)) rfl (m:=[]) ?_ |>.trans (by rw[vt,zk])
   rw[yJ,b8 (bT x),e1,aP,O,b8 (bT y),e2,aP,O,fT,O,kH,O,az,ag hn0,
    eC fX fY,e3,aP,O,bg,O,az,ai hc,b8 fX,Io hX,aP,O]
   unfold iZ kF;rw[ai h1,ai h1]
   rfl
  .have hc:¬ fS x.v y.v<0:=by unfold fS;rw[ag h1];split<;>omega
   by_cases h2:y.v<4294967296
   .have hn1:(aB y.v).length=1:=ze.2 ⟨h0,h2⟩
    have hdig:(aB y.v).getD 0 0=y.v:=by
     rw[rq h0,lZ,iX h2]
    have hlt:x.v%y.v<y.v:=io _ Z;refine cK _ _ (qm (mo (iZ x y)) (mo (kF x y)) (iR _ _)) rfl (m:=[]) ?_ |>.trans (by rw[vt,zk])
    have e4:=VP (d:=y.v) hX Z h2;rw[vX] at e4
    rw[yJ,b8 (bT x),e1,aP,O,b8 (bT y),e2,aP,O,fT,O,kH,O,az,ag hn0,
     eC fX fY,e3,aP,O,bg,O,az,ag hc,O,qz,O,az,ai hn1,zG (by simp only[hn1];omega),O,iL,O]
    simp only[hdig];rw[eC (b:=dg y.v) (b':=dg y.v) fX (ft .u32 y.v),e4];simp only[aP,O,aT]
    rw[show ([NV.av ⟨false,.no,aB (x.v/y.v)⟩,dg (x.v%y.v)]:List AV)[0]?=some (NV.av ⟨false,.no,aB (x.v/y.v)⟩) from rfl,show ([NV.av ⟨false,.no,aB (x.v/y.v)⟩,dg (x.v%y.v)]:List AV)[1]?=some (dg (x.v%y.v)) from rfl,
     O,O,jp _ Z,O,b8 (ft _ _),CD Z]
    unfold iZ kF;rw[ag h1,ag h1,ai h2]
    rfl
   .have hn1:¬ (aB y.v).length=1:=fun e=>h2 (ze.1 e).2;obtain ⟨n,hn⟩:∃n,n=(aB y.v).length:=⟨_,rfl⟩;have hn2:2<=n:=Z;have hlast:=zd h0;rw[<- hn] at hlast;have htd:=eQ y.v (n-1);obtain ⟨z1,z2,z3⟩:=KW (kD hlast) htd;obtain ⟨w1,w2⟩:=qda hn.symm Z z1;have hle:y.v<=x.v:=pY h1;have hmono:=iQ hle;generalize hs:lz ((aB y.v).getD (n-1) 0)=s at *;have hsub:(gU (aB x.v) s (aB x.v).length).length=(aB x.v).length+1:=rV _ _ _;have hsvb:(gU (aB y.v) s (aB y.v).length).length=(aB y.v).length+1:=rV _ _ _;have hsu:val (gU (aB x.v) s (aB x.v).length)=2^s*x.v:=by rw[Mx,fB]
    have hsv:val (gU (aB y.v) s (aB y.v).length)=2^s*y.v:=by rw[Mx,fB]
    have hdu:Dg (gU (aB x.v) s (aB x.v).length):=EP (eQ _) z1 _ (aI _);have hdv:Dg (gU (aB y.v) s (aB y.v).length):=EP (eQ _) z1 _ (aI _);have htop:(gU (aB x.v) s (aB x.v).length).getD (aB x.v).length 0<2^s:=EQ (eQ _) _ (aI _);have hpow:2^s<=2^31:=lF Z Z;obtain ⟨mm,hmm⟩:∃mm,(aB x.v).length+1=mm+n:=⟨(aB x.v).length+1-n,Z⟩;have hW:NOk ⟨false,.no,aB (2^s*y.v)⟩:=⟨eQ _,by simp only[w1];omega,aq⟩
    have e5:AP aa 164 [(NV.mk false .no (gU (aB y.v) s (aB y.v).length)).av]=some (NV.av ⟨false,.no,aB (2^s*y.v)⟩):=by
     rw[nt _ (by simp only[hsvb];omega),jb hdv,hsv]
    have hp:=qC (cp:=AP aa) (g:=164) (m:=[oc (gU (aB x.v) s (aB x.v).length),oc (gU (aB y.v) s (aB y.v).length)]) (nm:=1) (ds:=gU (aB y.v) s (aB y.v).length) rfl
    have hI:=qa4 (v:=aB (2^s*y.v)) (n:=n) (m:=mm) hdu Z (qdO hdu w1 Z (by
     rw[show mm+n-1=(aB x.v).length by omega]
     exact mN htop (eP hpow w2)))
    obtain ⟨u',q',i1,i2⟩:=Ww ⟨false,.no,aB (2^s*y.v)⟩ _ (Bk (aD f187)) (.U s) (mm+n) n mm w1 hn2 (eQ _) rfl Z w2 mm _ _ (aI _) hI;obtain ⟨k1,k2⟩:=KInv.done (a:=aB x.v) (b:=aB y.v) z1 Z (by rw[hsu,fB]) (by rw[fB,fB]) i1;rw[fB,fB] at k1 k2;have hlq:=i1.lq;have hlu:=i1.lu;have i3:=WA u' q' (Bo (aD f187)) (.arr 2 0 mm none) s (mm+n) n i1.du hlu Z Z z1 n 0 Z;have p1:=qC (cp:=AP aa) (g:=164) (m:=M3 u' q'++[oc (iW u' s n)]) (nm:=2) (ds:=q') rfl;have p2:=qC (cp:=AP aa) (g:=164) (m:=(M3 u' q'++[oc (iW u' s n)]).set 2 none) (nm:=3) (ds:=iW u' s n) rfl;rw[hlq] at p1;rw[wl] at p2;have f1:=n5 (x:=⟨false,.no,q'⟩) ⟨i1.dq,by simp only[hlq];omega,aq⟩;have f2:=n5 (x:=⟨false,.no,iW u' s n⟩) ⟨AK i1.du z1 n,by simp only[wl];omega,aq⟩;rw[NV.v,<- jb i1.dq,k1] at f1;rw[NV.v,<- jb (AK i1.du z1 n),k2] at f2;refine cK _ _ (qm (mo (iZ x y)) (mo (kF x y)) (iR _ _)) rfl (m:=[oc u',none,none,none]) ?_ |>.trans (by rw[vt,zk])
    rw[yJ,b8 (bT x),e1,aP,O,b8 (bT y),e2,aP,O,fT,O,kH,O,az,ag hn0,
     eC fX fY,e3,aP,O,bg,O,az,ag hc,O,qz,O,az,ag hn1,
     O,lh (by simp only[];omega) (by simp only[];omega),O,ju (by simp only[];omega),O,iL,O]
    simp only[show (aB y.v).getD ((aB y.v).length-1) 0=(aB y.v).getD (n-1) 0 by rw[hn]];rw[b8 (a:=dg ((aB y.v).getD (n-1) 0)) (a':=dg ((aB y.v).getD (n-1) 0)) (ft _ _),VQ (kD hlast) htd,aP,O,hs,vn Z,O,It [] hX z1,O,It _ hY z1,O];simp only[bX,bq,a8,cc];rw[hsvb] at hp;rw[hp,e5,aP,O,fT,O,qbf,O];simp only[w1,hmm];rw[jI Z Z,O,kU,qw Z Z,O,O,jI Z Z,O,kU,mZ Z,O]
    refine Eq.trans ?_ (i2.trans ?_)
    .rfl
    rw[QO,qw Z Z,O]
    refine Eq.trans ?_ (i3.trans ?_)
    .rfl
    rw[Q8,p1,f1,aP,O,p2,f2,aP,O];unfold iZ kF;rw[ag h1,ag h1,ag h2]
    rfl
end Go.Ab
namespace Go.Ab
open Go.Proofs.Tryz
def jk(x y:NV):NV:=⟨if Nat.gcd x.v y.v=0 then x.z else false,mG (Nat.gcd x.v y.v),aB (Nat.gcd x.v y.v)⟩
theorem Wu(K:KT)(m:af):∀(n:Nat) (a b:NV),NOk a->NOk b->a.ds=aB a.v->b.ds=aB b.v->b.v=n->a.fr=a->b.fr=b ->
  ∃c:NV,NOk c/\c.ds=aB (Nat.gcd a.v b.v)/\c.fr=c/\(b.v=0->c.z=a.z)/\xH a.av b.av m K=K (.exit 0) (B6 c.av m):=by
 intro n
 induction n using Nat.strongRecOn with
 | ind n ih=>
  intro a b ha hb ca cb hn fa fb;have fza:=bT a;have fzb:=bT b;rw[fa] at fza;rw[fb] at fzb;rw[TD,fT,O,pA,O,az]
  by_cases h:b.v=0
  .have hl:¬ b.ds.length>0:=by rw[cb,h,jg];simp
   rw[ag hl];exact ⟨a,ha,by rw[h,Nat.gcd_zero_right];exact ca,fa,fun _=>rfl,rfl⟩
  .have hl:b.ds.length>0:=by
    rw[cb];have:(aB b.v).length≠0:=fun e=>h (jT.1 e);omega
   rw[ai hl,eC fza fzb,CE ha hb,zm,ag h];simp only[aP,O];have hlt:a.v%b.v<b.v:=io _ (kD h);obtain ⟨c,c1,c2,c3,c4,c5⟩:=ih (a.v%b.v) Z b (kF a b) hb (Z1 ha) cb (by rw[zj,C7]) (C7 a b) fb (zk a b);rw[C7] at c2;refine ⟨c,c1,?_,c3,fun e=>absurd e h,c5⟩;rw[c2,oX b.v,<- Nat.gcd_rec,oX]
theorem VM{x y:NV}(hx:NOk x)(hy:NOk y):AP aa 183 [x.av,y.av]=some (jk x y).av:=by
 have lx:=hx.v_len';have ly:=hy.v_len';have hX:NOk ⟨x.z,.no,aB x.v⟩:=⟨eQ _,lx,hx.z_v⟩;have hY:NOk ⟨y.z,.no,aB y.v⟩:=⟨eQ _,ly,hy.z_v⟩;have e1:=n5 hx.fr;have e2:=n5 hy.fr;rw[show x.fr.v=x.v from rfl,show x.fr.z=x.z from rfl] at e1;rw[show y.fr.v=y.v from rfl,show y.fr.z=y.z from rfl] at e2;have vX:(NV.mk x.z .no (aB x.v)).v=x.v:=fB _;have vY:(NV.mk y.z .no (aB y.v)).v=y.v:=fB _;obtain ⟨⟨cz,co,cd⟩,c1,c2,c3,c4,c5⟩:=Wu (Bi (aD f183)) [] _ _ _ hX hY (by rw[vX]) (by rw[vY]) rfl rfl rfl;rw[vX,vY] at c2;rw[vY] at c4;simp only at c2 c4;subst c2
 have hz:cz=if Nat.gcd x.v y.v=0 then x.z else false:=by
  split
  .rename_i h;exact c4 (Nat.eq_zero_of_gcd_eq_zero_right h)
  .rename_i h;have h5:=c1.nil;simp only at h5
   cases cz with
   | false=>rfl
   | true=>exact absurd (wq.1 (h5 rfl)) h
 refine fH (v:=(NV.mk cz (mG (Nat.gcd x.v y.v)) (aB (Nat.gcd x.v y.v))).av) (m:=[]) ?_ (by rw[bT];simp only[NV.fr,Ac];rw[jk,<- hz]) (by simp[jk,NV.av,gF]);rw[UL,b8 (bT x),e1,aP,O,b8 (bT y),e2,aP,O];refine c5.trans ?_;rw[QI,b8 (bT _),c3,Io c1]
 rfl
theorem ZZ{a b:Nat}(h:(aB a).length<2^40)(h':(aB b).length<2^40):(aB (Nat.gcd a b)).length<2^40:=by
 by_cases ha:a=0
 .rw[ha,Nat.gcd_zero_left];exact h'
 .exact im (iQ (Nat.gcd_le_left _ (kD ha))) h
theorem qaB{x y:NV}(hx:NOk x)(hy:NOk y):NOk (jk x y):=by
 refine ⟨eQ _,ZZ hx.v_len' hy.v_len',?_⟩;unfold jk;simp only
 split
 .rename_i h;intro _;rw[h];exact jg
 .intro h;cases h
theorem qaC(x y:NV):(jk x y).v=Nat.gcd x.v y.v:=fB _
theorem qaA(x y:NV):(jk x y).fr=jk x y:=by unfold jk NV.fr;simp only[Ac]
end Go.Ab
namespace Go.Ab
noncomputable section
variable (a0 a1 a2 x0 x1 x3 x4 x5 x6 x7 x8 x9 x10 x11 x12:AV) (m:af) (K:KT)
open Go.Proofs.Tryz
theorem Ve:AC aa 72 [a0] m=(ba .u32 a0).bind fun v1=>(ae .o .shr a0 (.U 32)).bind fun v2=>(ba .u32 v2).bind fun v3=>(cq none [v1,v3]).bind fun v4=>(aF (AP aa) none m 133 [v4]).bind fun r5=>some (r5.1,r5.2):=
(aZ aa 72 [a0] m (fn:=f72) (c:=aA f72) YU rfl).trans aj
def Cp:St:=⟨(aJ (aG (x5::bc (aH (aG []))))),m⟩
def xY:OM:=bD 75 (bI (c2 (c2 (c2 (aA f75))))) 4 (x0::x1::aH (aG (x5::x6::bc (aH [])))) m K
def Cq:St:=⟨(x0::x1::aH (aG (x5::x6::x7::bc (aG [])))),m⟩
def xZ:OM:=bD 75 (bI (qg (bI (c2 (c2 (c2 (aA f75))))))) 8 (x0::x1::aH (aG (x5::x6::x7::x8::bc []))) m K
abbrev Sv:KT:=bi 75 (aV (aA f75)) K
abbrev Sw:KT:=be 0 (Sv K)
abbrev Bx:KT:=(Sw K)
abbrev Sy:KT:=bi 75 (jf (kZ (c2 (aA f75)))) (kI 75 (bI (c2 (c2 (c2 (aA f75))))) 4 K)
abbrev Sz:KT:=be 1 (Sy K)
abbrev SA:KT:=bi 75 (jf (qg (vq (aA f75)))) (Sz K)
abbrev SB:KT:=be 2 (SA K)
abbrev By:KT:=(SB K)
theorem Vg:AC aa 75 [a0,a1] m=(aF (AP aa) none m 133 [a0]).bind fun r1=>(aF (AP aa) none r1.2 133 [a1]).bind fun r2=>(aL false r1.1).bind fun v3=>(aL false r2.1).bind fun v4=>(ae .o .add v3 v4).bind fun v5=>(fU none 161 none (.int .u32 0) 4 r2.2 v5 v5).bind fun r6=>xY r1.1 r2.1 r6.1 (.I 0) r6.2 (Bx (aD f75)):=
(aZ aa 75 [a0,a1] m (fn:=f75) (c:=aA f75) YX rfl).trans aj
theorem G4:xY x0 x1 x5 x6 m K=(aL false x0).bind fun v1=>(ae .o .lss x6 v1).bind fun v2=>au v2 (xZ x0 x1 x5 x6 (.U 0) (.I 0) m (By K)) (K (.exit 0) (Cp x5 m)):=
(bC (bw _) _ _ _).trans aj
theorem G5:xZ x0 x1 x5 x6 x7 x8 m K=(aL false x1).bind fun v1=>(ae .o .lss x8 v1).bind fun v2=>au v2 ((aE none x0 x6).bind fun v3=>(am none m v3).bind fun v4=>(ba .u64 v4).bind fun v5=>(aE none x1 x8).bind fun v6=>(am none m v6).bind fun v7=>(ba .u64 v7).bind fun v8=>(ae .o .mul v5 v8).bind fun v9=>(ae .o .add x6 x8).bind fun v10=>(aE none x5 v10).bind fun v11=>(am none m v11).bind fun v12=>(ba .u64 v12).bind fun v13=>(ae .o .add v9 v13).bind fun v14=>(ae .o .add v14 x7).bind fun v15=>(ae .o .add x6 x8).bind fun v16=>(ae .o .rem v15 (.U 4294967296)).bind fun v17=>(ba .u32 v17).bind fun v18=>(aE none x5 v16).bind fun v19=>(aM none m v19 v18).bind fun m20=>(ae .o .quo v15 (.U 4294967296)).bind fun v21=>(ae .o .add x8 (.I 1)).bind fun v22=>xZ x0 x1 x5 x6 v21 v22 m20 K) (K (.exit 2) (Cq x0 x1 x5 x6 x7 m)):=
(bC (bw _) _ _ _).trans aj
theorem Sx:Bx (aD f75) (.exit 0) (Cp x5 m)=(aF (AP aa) none m 133 [x5]).bind fun r1=>some (r1.1,r1.2):=aj
theorem SC:By K (.exit 2) (Cq x0 x1 x5 x6 x7 m)=(aL false x1).bind fun v1=>(ae .o .add x6 v1).bind fun v2=>(ba .u32 x7).bind fun v3=>(aE none x5 v2).bind fun v4=>(aM none m v4 v3).bind fun m5=>(ae .o .add x6 (.I 1)).bind fun v6=>xY x0 x1 x5 v6 m5 K:=aj
def yA:St:=⟨(aJ (aG (x5::bm (aJ (aH []))))),m⟩
def oL:OM:=bD 76 (bI (c2 (c2 (c2 (aA f76))))) 4 (x0::x1::aH (aG (x5::x6::x7::bm (aJ [])))) m K
abbrev SE:KT:=bi 76 (aV (aA f76)) K
abbrev SF:KT:=be 0 (SE K)
abbrev Bz:KT:=(SF K)
theorem Vh:AC aa 76 [a0,a1] m=oL a0 a1 aw (.U 0) (.I 0) m (Bz (aD f76)):=
(aZ aa 76 [a0,a1] m (fn:=f76) (c:=aA f76) YY rfl).trans aj
theorem BJ:oL x0 x1 x5 x6 x7 m K=(aL false x0).bind fun v1=>(ae .o .lss x7 v1).bind fun v2=>au v2 ((aF (AP aa) none m 135 [x0,x7]).bind fun r3=>(aF (AP aa) none r3.2 135 [x1,x7]).bind fun r4=>(ae .o .add r3.1 r4.1).bind fun v5=>(ae .o .add v5 x6).bind fun v6=>(ae .o .rem v6 (.U 4294967296)).bind fun v7=>(ba .u32 v7).bind fun v8=>(cq none [v8]).bind fun v9=>(bF none false 161 none 4 r4.2 x5 v9).bind fun r10=>(ae .o .quo v6 (.U 4294967296)).bind fun v11=>(ae .o .add x7 (.I 1)).bind fun v12=>oL x0 x1 r10.1 v11 v12 r10.2 K) ((aL false x1).bind fun v13=>(ae .o .lss x7 v13).bind fun v14=>au v14 ((aF (AP aa) none m 135 [x0,x7]).bind fun r15=>(aF (AP aa) none r15.2 135 [x1,x7]).bind fun r16=>(ae .o .add r15.1 r16.1).bind fun v17=>(ae .o .add v17 x6).bind fun v18=>(ae .o .rem v18 (.U 4294967296)).bind fun v19=>(ba .u32 v19).bind fun v20=>(cq none [v20]).bind fun v21=>(bF none false 161 none 4 r16.2 x5 v21).bind fun r22=>(ae .o .quo v18 (.U 4294967296)).bind fun v23=>(ae .o .add x7 (.I 1)).bind fun v24=>oL x0 x1 r22.1 v23 v24 r22.2 K) ((ae .o .gtr x6 (.U 0)).bind fun v25=>au v25 ((aF (AP aa) none m 135 [x0,x7]).bind fun r26=>(aF (AP aa) none r26.2 135 [x1,x7]).bind fun r27=>(ae .o .add r26.1 r27.1).bind fun v28=>(ae .o .add v28 x6).bind fun v29=>(ae .o .rem v29 (.U 4294967296)).bind fun v30=>(ba .u32 v30).bind fun v31=>(cq none [v31]).bind fun v32=>(bF none false 161 none 4 r27.2 x5 v32).bind fun r33=>(ae .o .quo v29 (.U 4294967296)).bind fun v34=>(ae .o .add x7 (.I 1)).bind fun v35=>oL x0 x1 r33.1 v34 v35 r33.2 K) (K (.exit 0) (yA x5 m)))):=
(bC (bw _) _ _ _).trans aj
theorem SG:Bz (aD f76) (.exit 0) (yA x5 m)=(aF (AP aa) none m 133 [x5]).bind fun r1=>some (r1.1,r1.2):=aj
def Cr:St:=⟨(bm (aO (aJ (aG [])))),m⟩
def yG:St:=⟨(aJ (x4::bm (aO []))),m⟩
def ya:OM:=bD 77 (bI (c2 (c2 (c2 (aA f77))))) 7 (x0::x1::aH (aG (x5::bm (aJ (aH (aG [])))))) m K
abbrev SH:KT:=bi 77 (aV (aA f77)) K
abbrev SI:KT:=be 0 (SH K)
abbrev w5:KT:=(SI K)
theorem Vj:AC aa 77 [a0,a1] m=(aF (AP aa) none m 133 [a0]).bind fun r1=>(aF (AP aa) none r1.2 133 [a1]).bind fun r2=>(aL false r1.1).bind fun v3=>(aL false r2.1).bind fun v4=>(ae .o .neq v3 v4).bind fun v5=>au v5 ((aL false r1.1).bind fun v6=>(aL false r2.1).bind fun v7=>(ae .o .lss v6 v7).bind fun v8=>au v8 (some ((.I (-1)),r2.2)) (some ((.I 1),r2.2))) ((aL false r1.1).bind fun v9=>(ae .o .sub v9 (.I 1)).bind fun v10=>ya r1.1 r2.1 v10 r2.2 (w5 (aD f77))):=
(aZ aa 77 [a0,a1] m (fn:=f77) (c:=aA f77) YZ rfl).trans aj
theorem G6:ya x0 x1 x5 m K=(ae .o .geq x5 (.I 0)).bind fun v1=>au v1 ((aE none x0 x5).bind fun v2=>(am none m v2).bind fun v3=>(aE none x1 x5).bind fun v4=>(am none m v4).bind fun v5=>(ae .o .neq v3 v5).bind fun v6=>au v6 ((aE none x0 x5).bind fun v7=>(am none m v7).bind fun v8=>(aE none x1 x5).bind fun v9=>(am none m v9).bind fun v10=>(ae .o .lss v8 v10).bind fun v11=>au v11 (K .ret (yG (.I (-1)) m)) (K .ret (yG (.I 1) m))) ((ae .o .sub x5 (.I 1)).bind fun v12=>ya x0 x1 v12 m K)) (K (.exit 0) (Cr m)):=
(bC (bw _) _ _ _).trans aj
theorem SK:w5 (aD f77) (.exit 0) (Cr  m)=some ((.I 0),m):=aj
theorem SJ:w5 (aD f77) .ret (yG x4 m)=some (x4,m):=aj
def Cs:St:=⟨(aJ (aH (x6::bm (aJ (aG []))))),m⟩
def uD:OM:=bD 78 (bI (aV (aA f78))) 6 (x0::x1::aJ (x6::x7::x8::bm (aH (aG [])))) m K
abbrev SL:KT:=bi 78 (aV (c2 (aA f78))) K
abbrev SM:KT:=be 0 (SL K)
abbrev FQ:KT:=(SM K)
theorem Ie:AC aa 78 [a0,a1] m=(aF (AP aa) none m 77 [a0,a1]).bind fun r1=>(ae .o .lss r1.1 (.I 0)).bind fun v2=>au v2 (some ((.tup [aw,(.I 1)]),r1.2)) (uD a0 a1 aw (.U 0) (.I 0) r1.2 (FQ (aD f78))):=
(aZ aa 78 [a0,a1] m (fn:=f78) (c:=aA f78) Y0 rfl).trans aj
theorem G7:uD x0 x1 x6 x7 x8 m K=(aL false x0).bind fun v1=>(ae .o .lss x8 v1).bind fun v2=>au v2 ((aF (AP aa) none m 135 [x1,x8]).bind fun r3=>(ae .o .add r3.1 x7).bind fun v4=>(aF (AP aa) none r3.2 135 [x0,x8]).bind fun r5=>(ae .o .lss r5.1 v4).bind fun v6=>au v6 ((aF (AP aa) none r5.2 135 [x0,x8]).bind fun r7=>(ae .o .mul (.U 1) (.U 4294967296)).bind fun v8=>(ae .o .add r7.1 v8).bind fun v9=>(ae .o .sub v9 v4).bind fun v10=>(ba .u32 v10).bind fun v11=>(cq none [v11]).bind fun v12=>(bF none false 161 none 4 r7.2 x6 v12).bind fun r13=>(ae .o .add x8 (.I 1)).bind fun v14=>uD x0 x1 r13.1 (.U 1) v14 r13.2 K) ((aF (AP aa) none r5.2 135 [x0,x8]).bind fun r15=>(ae .o .mul (.U 0) (.U 4294967296)).bind fun v16=>(ae .o .add r15.1 v16).bind fun v17=>(ae .o .sub v17 v4).bind fun v18=>(ba .u32 v18).bind fun v19=>(cq none [v19]).bind fun v20=>(bF none false 161 none 4 r15.2 x6 v20).bind fun r21=>(ae .o .add x8 (.I 1)).bind fun v22=>uD x0 x1 r21.1 (.U 0) v22 r21.2 K)) (K (.exit 0) (Cs x6 m)):=
(bC (bw _) _ _ _).trans aj
theorem SN:FQ (aD f78) (.exit 0) (Cs x6 m)=(aF (AP aa) none m 133 [x6]).bind fun r1=>some ((.tup [r1.1,(.I 0)]),r1.2):=aj
def BP:St:=⟨(aJ (aG (x5::bc (aO (aJ (aH [])))))),m⟩
def xf:OM:=bD 119 (JE (kZ (c2 (c2 (aA f119))))) 5 (aJ (aG (x5::aG (x7::bc (aO (aJ [])))))) m K
def yq:St:=⟨(x0::x1::aJ (aH (aG (x9::bc (aO (aH [])))))),m⟩
def sr:OM:=bD 119 (jS (aV (c2 (c2 (c2 (aA f119)))))) 13 (x0::x1::aJ (aH (aG (x9::bc (aO (aH [])))))) m K
def BM:St:=⟨(x0::aO (x9::bc (aO (aH [])))),m⟩
def uk:OM:=bD 119 (jS (aV (aV (aA f119)))) 15 (x0::x1::aJ (aH (aG (x9::bc (aO (aH [])))))) m K
def BN:St:=⟨(x0::x1::aJ (aH (aG (x9::bc (aO (aH [])))))),m⟩
def xd:OM:=bD 119 (JE (ZW (aV (aV (c2 (aA f119)))))) 16 (x0::x1::aJ (aH (aG (x9::bc (aO (aH [])))))) m K
def BO:St:=⟨(x0::x1::aJ (aH (aG (x9::bc (aO (aH [])))))),m⟩
def xe:OM:=bD 119 (jS (zb (vq (aV (c2 (c2 (aA f119))))))) 18 (x0::x1::aJ (aH (aG (x9::bc (aO (aH [])))))) m K
abbrev OC:KT:=bi 119 (aV (c2 (aA f119))) K
abbrev OE:KT:=bi 119 (vr (aV (aA f119))) (OC K)
abbrev OF:KT:=be 0 (OE K)
abbrev FH:KT:=(OF K)
abbrev Ol:KT:=bi 119 (aV (aV (c2 (aA f119)))) K
abbrev Om:KT:=be 2 (Ol K)
abbrev ub:KT:=(Om K)
abbrev Ou:KT:=be 5 (kI 119 (jS (aV (aV (aA f119)))) 15 K)
abbrev Ov:KT:=bi 119 (vr (rm (aV (c2 (c2 (c2 (aA f119))))))) (Ou K)
abbrev Ow:KT:=be 6 (Ov K)
abbrev A0:KT:=(Ow K)
abbrev Oo:KT:=bi 119 (aV (aV (c2 (c2 (aA f119))))) K
abbrev Oq:KT:=be 4 (Oo K)
abbrev FG:KT:=(Oq K)
abbrev Oy:KT:=be 5 (kI 119 (jS (aV (aV (aA f119)))) 15 K)
abbrev Oz:KT:=bi 119 (C2 (jS (aV (aV (aA f119))))) (Oy K)
abbrev OA:KT:=be 8 (Oz K)
abbrev A1:KT:=(OA K)
theorem Uc:AC aa 119 [a0,a1] m=(aF (AP aa) none m 133 [a0]).bind fun r1=>(aF (AP aa) none r1.2 133 [a1]).bind fun r2=>(aF (AP aa) none r2.2 155 [r1.1]).bind fun r3=>(aT r3.1 0).bind fun v4=>(aT r3.1 1).bind fun v5=>(aF (AP aa) none r3.2 155 [r2.1]).bind fun r6=>(aT r6.1 0).bind fun v7=>(aT r6.1 1).bind fun v8=>au v5 (au v8 (xf v4 v7 r6.2 (FH (aD f119))) ((aL false r1.1).bind fun v9=>(ae .o .eql v9 (.I 0)).bind fun v10=>au v10 (some (r2.1,r6.2)) ((aL false r2.1).bind fun v11=>(ae .o .eql v11 (.I 0)).bind fun v12=>au v12 (some (r1.1,r6.2)) ((aF (AP aa) none r6.2 72 [(.U 1)]).bind fun r13=>sr r1.1 r2.1 r13.1 r13.2 (ub (aD f119)))))) ((aL false r1.1).bind fun v14=>(ae .o .eql v14 (.I 0)).bind fun v15=>au v15 (some (r2.1,r6.2)) ((aL false r2.1).bind fun v16=>(ae .o .eql v16 (.I 0)).bind fun v17=>au v17 (some (r1.1,r6.2)) ((aF (AP aa) none r6.2 72 [(.U 1)]).bind fun r18=>sr r1.1 r2.1 r18.1 r18.2 (ub (aD f119))))):=
(aZ aa 119 [a0,a1] m (fn:=f119) (c:=aA f119) Xw rfl).trans aj
theorem Tw:xf x5 x7 m K=(ae .o .neq x7 (.U 0)).bind fun v1=>au v1 ((ae .o .rem x5 x7).bind fun v2=>xf x7 v2 m K) (K (.exit 0) (BP x5 m)):=
(bC (bw _) _ _ _).trans aj
theorem Ts:sr x0 x1 x9 m K=(aF (AP aa) none m 156 [x0]).bind fun r1=>au r1.1 ((aF (AP aa) none r1.2 156 [x1]).bind fun r2=>au r2.1 ((aF (AP aa) none r2.2 157 [x0]).bind fun r3=>(aF (AP aa) none r3.2 157 [x1]).bind fun r4=>(aF (AP aa) none r4.2 76 [x9,x9]).bind fun r5=>sr r3.1 r4.1 r5.1 r5.2 K) (K (.exit 2) (yq x0 x1 x9 r2.2))) (K (.exit 2) (yq x0 x1 x9 r1.2)):=
(bC (bw _) _ _ _).trans aj
theorem Tt:uk x0 x1 x9 m K=(aL false x1).bind fun v1=>(ae .o .gtr v1 (.I 0)).bind fun v2=>au v2 (xd x0 x1 x9 m (A0 K)) (K (.exit 4) (BM x0 x9 m)):=
(bC (bw _) _ _ _).trans aj
theorem Tu:xd x0 x1 x9 m K=(aF (AP aa) none m 156 [x0]).bind fun r1=>au r1.1 ((aF (AP aa) none r1.2 157 [x0]).bind fun r2=>xd r2.1 x1 x9 r2.2 K) (K (.exit 6) (BN x0 x1 x9 r1.2)):=
(bC (bw _) _ _ _).trans aj
theorem Tv:xe x0 x1 x9 m K=(aF (AP aa) none m 156 [x1]).bind fun r1=>au r1.1 ((aF (AP aa) none r1.2 157 [x1]).bind fun r2=>xe x0 r2.1 x9 r2.2 K) (K (.exit 8) (BO x0 x1 x9 r1.2)):=
(bC (bw _) _ _ _).trans aj
theorem OG:FH (aD f119) (.exit 0) (BP x5 m)=(aF (AP aa) none m 72 [x5]).bind fun r1=>some (r1.1,r1.2):=aj
theorem On:ub (aD f119) (.exit 2) (yq x0 x1 x9 m)=uk x0 x1 x9 m (FG (aD f119)):=aj
theorem Ox:A0 K (.exit 6) (BN x0 x1 x9 m)=xe x0 x1 x9 m (A1 K):=aj
theorem Ot:FG (aD f119) (.exit 4) (BM x0 x9 m)=(aF (AP aa) none m 75 [x0,x9]).bind fun r1=>some (r1.1,r1.2):=aj
theorem OB:A1 K (.exit 8) (BO x0 x1 x9 m)=(aF (AP aa) none m 77 [x0,x1]).bind fun r1=>(ae .o .gtr r1.1 (.I 0)).bind fun v2=>au v2 ((aF (AP aa) none r1.2 78 [x0,x1]).bind fun r3=>(aT r3.1 0).bind fun v4=>(aT r3.1 1).bind fun v5=>uk x1 v4 x9 r3.2 K) ((aF (AP aa) none r1.2 78 [x1,x0]).bind fun r6=>(aT r6.1 0).bind fun v7=>(aT r6.1 1).bind fun v8=>uk x0 v7 x9 r6.2 K):=aj
def yt:St:=⟨(x0::aH (x3::bh (aH []))),m⟩
def xp:OM:=bD 133 (jS (c2 (aA f133))) 2 (x0::aH (x3::bh (aH []))) m K
abbrev Pl:KT:=bi 133 (c2 (c2 (c2 (aA f133)))) K
abbrev Pm:KT:=be 0 (Pl K)
abbrev FJ:KT:=(Pm K)
theorem Up:AC aa 133 [a0] m=(aL false a0).bind fun v1=>xp a0 v1 m (FJ (aD f133)):=
(aZ aa 133 [a0] m (fn:=f133) (c:=aA f133) XJ rfl).trans aj
theorem Gc:xp x0 x3 m K=(ae .o .gtr x3 (.I 0)).bind fun v1=>au v1 ((ae .o .sub x3 (.I 1)).bind fun v2=>(aE none x0 v2).bind fun v3=>(am none m v3).bind fun v4=>(ae .o .eql v4 (.int .u32 0)).bind fun v5=>au v5 ((ae .o .sub x3 (.I 1)).bind fun v6=>xp x0 v6 m K) (K (.exit 0) (yt x0 x3 m))) (K (.exit 0) (yt x0 x3 m)):=
(bC (bw _) _ _ _).trans aj
theorem Pn:FJ (aD f133) (.exit 0) (yt x0 x3 m)=(jZ none x0 none (some x3) none).bind fun v1=>(bF none false 161 none 4 m aw v1).bind fun r2=>some (r2.1,r2.2):=aj
theorem Ur:AC aa 135 [a0,a1] m=(aL false a0).bind fun v1=>(ae .o .lss a1 v1).bind fun v2=>au v2 ((aE none a0 a1).bind fun v3=>(am none m v3).bind fun v4=>(ba .u64 v4).bind fun v5=>some (v5,m)) (some ((.U 0),m)):=
(aZ aa 135 [a0,a1] m (fn:=f135) (c:=aA f135) XL rfl).trans aj
def BW:St:=⟨(aH (aG (x3::bh (aJ (aH (aG [])))))),m⟩
def xq:OM:=bD 136 (bI (aV (aA f136))) 6 (aH (aG (x3::x4::bh (aJ (aH []))))) m K
abbrev Po:KT:=bi 136 (aV (c2 (aA f136))) K
abbrev Pp:KT:=be 0 (Po K)
abbrev A7:KT:=(Pp K)
theorem H3:AC aa 136 [a0] m=(aF (AP aa) none m 133 [a0]).bind fun r1=>(aL false r1.1).bind fun v2=>(ae .o .eql v2 (.I 0)).bind fun v3=>au v3 (some ((.I 0),r1.2)) ((aL false r1.1).bind fun v4=>(ae .o .sub v4 (.I 1)).bind fun v5=>(ae .o .mul (.I 32) v5).bind fun v6=>(aL false r1.1).bind fun v7=>(ae .o .sub v7 (.I 1)).bind fun v8=>(aE none r1.1 v8).bind fun v9=>(am none r1.2 v9).bind fun v10=>xq v6 v10 r1.2 (A7 (aD f136))):=
(aZ aa 136 [a0] m (fn:=f136) (c:=aA f136) XM rfl).trans aj
theorem Gd:xq x3 x4 m K=(ae .o .gtr x4 (.int .u32 0)).bind fun v1=>au v1 ((ae .o .add x3 (.I 1)).bind fun v2=>(ae .o .quo x4 (.int .u32 2)).bind fun v3=>xq v2 v3 m K) (K (.exit 0) (BW x3 m)):=
(bC (bw _) _ _ _).trans aj
theorem Pr:A7 (aD f136) (.exit 0) (BW x3 m)=some (x3,m):=aj
def BX:St:=⟨(x0::aO (x9::bc (bh (aO [])))),m⟩
def xr:OM:=bD 137 (bI (aV (c2 (c2 (aA f137))))) 11 (x0::x1::aJ (aH (aG (x9::x10::bc (bh (aJ (aH (aG [])))))))) m K
def BY:St:=⟨(x0::x1::aJ (aH (aG (x9::x10::x11::bc (bh (aJ (aH []))))))),m⟩
def un:OM:=bD 137 (jS (bI (kn (aV (c2 (aA f137)))))) 14 (x0::x1::aJ (aH (aG (x9::x10::x11::x12::bc (bh (aJ (aG []))))))) m K
abbrev Ps:KT:=bi 137 (aV (c2 (c2 (c2 (aA f137))))) K
abbrev Pt:KT:=be 0 (Ps K)
abbrev A8:KT:=(Pt K)
abbrev Pv:KT:=bi 137 (jf (kZ (aV (aA f137)))) (kI 137 (bI (aV (c2 (c2 (aA f137))))) 11 K)
abbrev Pw:KT:=be 1 (Pv K)
abbrev Px:KT:=bi 137 (jf (qg (vq (c2 (c2 (c2 (aA f137))))))) (Pw K)
abbrev Py:KT:=be 2 (Px K)
abbrev A9:KT:=(Py K)
theorem yI:AC aa 137 [a0,a1] m=(aF (AP aa) none m 133 [a0]).bind fun r1=>(aF (AP aa) none r1.2 133 [a1]).bind fun r2=>(aL false r2.1).bind fun v3=>(ae .o .eql v3 (.I 0)).bind fun v4=>au v4 (some ((.tup [aw,aw,(.I 31)]),r2.2)) ((aL false r2.1).bind fun v5=>(ae .o .eql v5 (.I 1)).bind fun v6=>au v6 ((aE none r2.1 (.I 0)).bind fun v7=>(am none r2.2 v7).bind fun v8=>(ba .u64 v8).bind fun v9=>(aF (AP aa) none r2.2 170 [r1.1,v9]).bind fun r10=>(aT r10.1 0).bind fun v11=>(aT r10.1 1).bind fun v12=>(aF (AP aa) none r10.2 72 [v12]).bind fun r13=>some ((.tup [v11,r13.1,(.I 0)]),r13.2)) ((aL false r1.1).bind fun v14=>(aL false r2.1).bind fun v15=>(ae .o .lss v14 v15).bind fun v16=>au v16 (some ((.tup [aw,r1.1,(.I 0)]),r2.2)) ((aL false r1.1).bind fun v17=>(fU none 161 none (.int .u32 0) 4 r2.2 v17 v17).bind fun r18=>(aL false r1.1).bind fun v19=>(aL false r2.1).bind fun v20=>(ae .o .sub v19 v20).bind fun v21=>xr r1.1 r2.1 r18.1 v21 r18.2 (A8 (aD f137))))):=
(aZ aa 137 [a0,a1] m (fn:=f137) (c:=aA f137) XN rfl).trans aj
theorem Ge:xr x0 x1 x9 x10 m K=(ae .o .geq x10 (.I 0)).bind fun v1=>au v1 ((aF (AP aa) none m 171 [x0,x1,x10]).bind fun r2=>(aT r2.1 0).bind fun v3=>(aT r2.1 1).bind fun v4=>un x0 x1 x9 x10 v3 v4 r2.2 (A9 K)) (K (.exit 0) (BX x0 x9 m)):=
(bC (bw _) _ _ _).trans aj
theorem Gf:un x0 x1 x9 x10 x11 x12 m K=(ae .o .lss x11 x12).bind fun v1=>au v1 ((ae .o .sub x12 x11).bind fun v2=>(ae .o .add v2 (.U 1)).bind fun v3=>(ae .o .quo v3 (.U 2)).bind fun v4=>(ae .o .add x11 v4).bind fun v5=>(aF (AP aa) none m 172 [x1,v5,x10]).bind fun r6=>(aF (AP aa) none r6.2 77 [r6.1,x0]).bind fun r7=>(ae .o .leq r7.1 (.I 0)).bind fun v8=>au v8 (un x0 x1 x9 x10 v5 x12 r7.2 K) ((ae .o .sub v5 (.U 1)).bind fun v9=>un x0 x1 x9 x10 x11 v9 r7.2 K)) (K (.exit 2) (BY x0 x1 x9 x10 x11 m)):=
(bC (bw _) _ _ _).trans aj
theorem Pu:A8 (aD f137) (.exit 0) (BX x0 x9 m)=(aF (AP aa) none m 133 [x9]).bind fun r1=>some ((.tup [r1.1,x0,(.I 0)]),r1.2):=aj
theorem Pz:A9 K (.exit 2) (BY x0 x1 x9 x10 x11 m)=(ba .u32 x11).bind fun v1=>(aE none x9 x10).bind fun v2=>(aM none m v2 v1).bind fun m3=>(aF (AP aa) none m3 172 [x1,x11,x10]).bind fun r4=>(aF (AP aa) none r4.2 78 [x0,r4.1]).bind fun r5=>(aT r5.1 0).bind fun v6=>(aT r5.1 1).bind fun v7=>(ae .o .sub x10 (.I 1)).bind fun v8=>xr v6 x1 x9 v8 r5.2 K:=aj
theorem Uy:AC aa 155 [a0] m=(aF (AP aa) none m 133 [a0]).bind fun r1=>(aL false r1.1).bind fun v2=>(ae .o .eql v2 (.I 0)).bind fun v3=>au v3 (some ((.tup [(.U 0),(.bool true)]),r1.2)) ((ae .o .eql v2 (.I 1)).bind fun v4=>au v4 ((aE none r1.1 (.I 0)).bind fun v5=>(am none r1.2 v5).bind fun v6=>(ba .u64 v6).bind fun v7=>some ((.tup [v7,(.bool true)]),r1.2)) ((ae .o .eql v2 (.I 2)).bind fun v8=>au v8 ((aE none r1.1 (.I 1)).bind fun v9=>(am none r1.2 v9).bind fun v10=>(ba .u64 v10).bind fun v11=>(ae .o .shl v11 (.U 32)).bind fun v12=>(aE none r1.1 (.I 0)).bind fun v13=>(am none r1.2 v13).bind fun v14=>(ba .u64 v14).bind fun v15=>(ae .o .or v12 v15).bind fun v16=>some ((.tup [v16,(.bool true)]),r1.2)) (some ((.tup [(.U 0),(.bool false)]),r1.2)))):=
(aZ aa 155 [a0] m (fn:=f155) (c:=aA f155) XY rfl).trans aj
theorem Uz:AC aa 156 [a0] m=(aF (AP aa) none m 135 [a0,(.I 0)]).bind fun r1=>(ae .o .rem r1.1 (.U 2)).bind fun v2=>(ae .o .eql v2 (.U 0)).bind fun v3=>some (v3,r1.2):=
(aZ aa 156 [a0] m (fn:=f156) (c:=aA f156) XZ rfl).trans aj
theorem UA:AC aa 157 [a0] m=(aF (AP aa) none m 133 [a0]).bind fun r1=>(aF (AP aa) none r1.2 170 [r1.1,(.U 2)]).bind fun r2=>(aT r2.1 0).bind fun v3=>(aT r2.1 1).bind fun v4=>some (v3,r2.2):=
(aZ aa 157 [a0] m (fn:=f157) (c:=aA f157) X0 rfl).trans aj
def B2:St:=⟨(aJ (aH (x6::x7::bm (aG [])))),m⟩
def xF:OM:=bD 170 (bI (c2 (c2 (c2 (aA f170))))) 4 (x0::x1::aJ (x6::x7::x8::bm [])) m K
abbrev Qr:KT:=bi 170 (aV (aA f170)) K
abbrev Qs:KT:=be 0 (Qr K)
abbrev Bh:KT:=(Qs K)
theorem UH:AC aa 170 [a0,a1] m=(aL false a0).bind fun v1=>(fU none 161 none (.int .u32 0) 4 m v1 v1).bind fun r2=>(aL false a0).bind fun v3=>(ae .o .sub v3 (.I 1)).bind fun v4=>xF a0 a1 r2.1 (.U 0) v4 r2.2 (Bh (aD f170)):=
(aZ aa 170 [a0,a1] m (fn:=f170) (c:=aA f170) Yc rfl).trans aj
theorem Gu:xF x0 x1 x6 x7 x8 m K=(ae .o .geq x8 (.I 0)).bind fun v1=>au v1 ((ae .o .mul x7 (.U 4294967296)).bind fun v2=>(aE none x0 x8).bind fun v3=>(am none m v3).bind fun v4=>(ba .u64 v4).bind fun v5=>(ae .o .add v2 v5).bind fun v6=>(ae .o .quo v6 x1).bind fun v7=>(ba .u32 v7).bind fun v8=>(aE none x6 x8).bind fun v9=>(aM none m v9 v8).bind fun m10=>(ae .o .rem v6 x1).bind fun v11=>(ae .o .sub x8 (.I 1)).bind fun v12=>xF x0 x1 x6 v11 v12 m10 K) (K (.exit 0) (B2 x6 x7 m)):=
(bC (bw _) _ _ _).trans aj
theorem Qt:Bh (aD f170) (.exit 0) (B2 x6 x7 m)=(aF (AP aa) none m 133 [x6]).bind fun r1=>some ((.tup [r1.1,x7]),r1.2):=aj
theorem UI:AC aa 171 [a0,a1,a2] m=(aL false a1).bind fun v1=>(ae .o .add a2 v1).bind fun v2=>(aF (AP aa) (some m.length) m 135 [a0,v2]).bind fun r3=>(ae .o .shl r3.1 (.U 32)).bind fun v4=>(ae .o .add a2 v1).bind fun v5=>(ae .o .sub v5 (.I 1)).bind fun v6=>(aF (AP aa) (some m.length) r3.2 135 [a0,v6]).bind fun r7=>(ae .o .or v4 r7.1).bind fun v8=>(ae .o .sub v1 (.I 1)).bind fun v9=>(aE none a1 v9).bind fun v10=>(am none r7.2 v10).bind fun v11=>(ba .u64 v11).bind fun v12=>(ae .o .quo v8 v12).bind fun v13=>(ae .o .lss v13 (.U 4294967295)).bind fun v14=>au v14 ((ae .o .quo v8 v12).bind fun v15=>(ae .o .add v12 (.U 1)).bind fun v16=>(ae .o .lss v16 (.U 4294967296)).bind fun v17=>au v17 ((ae .o .add v12 (.U 1)).bind fun v18=>(ae .o .quo v8 v18).bind fun v19=>(ae .o .lss v19 (.U 4294967296)).bind fun v20=>au v20 ((ae .o .add v12 (.U 1)).bind fun v21=>(ae .o .quo v8 v21).bind fun v22=>(ae .o .gtr v22 v15).bind fun v23=>au v23 (some ((.tup [v15,v15]),r7.2)) (some ((.tup [v22,v15]),r7.2))) ((ae .o .gtr (.U 0) v15).bind fun v24=>au v24 (some ((.tup [v15,v15]),r7.2)) (some ((.tup [(.U 0),v15]),r7.2)))) ((ae .o .gtr (.U 0) v15).bind fun v25=>au v25 (some ((.tup [v15,v15]),r7.2)) (some ((.tup [(.U 0),v15]),r7.2)))) ((ae .o .add v12 (.U 1)).bind fun v26=>(ae .o .lss v26 (.U 4294967296)).bind fun v27=>au v27 ((ae .o .add v12 (.U 1)).bind fun v28=>(ae .o .quo v8 v28).bind fun v29=>(ae .o .lss v29 (.U 4294967296)).bind fun v30=>au v30 ((ae .o .add v12 (.U 1)).bind fun v31=>(ae .o .quo v8 v31).bind fun v32=>(ae .o .gtr v32 (.U 4294967295)).bind fun v33=>au v33 (some ((.tup [(.U 4294967295),(.U 4294967295)]),r7.2)) (some ((.tup [v32,(.U 4294967295)]),r7.2))) ((ae .o .gtr (.U 0) (.U 4294967295)).bind fun v34=>au v34 (some ((.tup [(.U 4294967295),(.U 4294967295)]),r7.2)) (some ((.tup [(.U 0),(.U 4294967295)]),r7.2)))) ((ae .o .gtr (.U 0) (.U 4294967295)).bind fun v35=>au v35 (some ((.tup [(.U 4294967295),(.U 4294967295)]),r7.2)) (some ((.tup [(.U 0),(.U 4294967295)]),r7.2)))):=
(aZ aa 171 [a0,a1,a2] m (fn:=f171) (c:=aA f171) Ye rfl).trans aj
def B3:St:=⟨(aJ (aH (aG (x7::x8::bm (aG []))))),m⟩
def xG:OM:=bD 172 (bI (c2 (c2 (c2 (aA f172))))) 4 (x0::x1::aJ (aG (x7::x8::x9::bm []))) m K
abbrev Qu:KT:=bi 172 (aV (aA f172)) K
abbrev Qv:KT:=be 0 (Qu K)
abbrev FN:KT:=(Qv K)
theorem UJ:AC aa 172 [a0,a1,a2] m=(rG none none (.int .u32 0) 4 m a2 a2).bind fun r1=>xG a0 a1 r1.1 (.U 0) (.I 0) r1.2 (FN (aD f172)):=
(aZ aa 172 [a0,a1,a2] m (fn:=f172) (c:=aA f172) Yf rfl).trans aj
theorem Gv:xG x0 x1 x7 x8 x9 m K=(aL false x0).bind fun v1=>(ae .o .lss x9 v1).bind fun v2=>au v2 ((aE none x0 x9).bind fun v3=>(am none m v3).bind fun v4=>(ba .u64 v4).bind fun v5=>(ae .o .mul v5 x1).bind fun v6=>(ae .o .add v6 x8).bind fun v7=>(ae .o .rem v7 (.U 4294967296)).bind fun v8=>(ba .u32 v8).bind fun v9=>(cq none [v9]).bind fun v10=>(bF none false 161 none 4 m x7 v10).bind fun r11=>(ae .o .quo v7 (.U 4294967296)).bind fun v12=>(ae .o .add x9 (.I 1)).bind fun v13=>xG x0 x1 r11.1 v12 v13 r11.2 K) (K (.exit 0) (B3 x7 x8 m)):=
(bC (bw _) _ _ _).trans aj
theorem Qw:FN (aD f172) (.exit 0) (B3 x7 x8 m)=(ba .u32 x8).bind fun v1=>(cq none [v1]).bind fun v2=>(bF none false 161 none 4 m x7 v2).bind fun r3=>(aF (AP aa) none r3.2 133 [r3.1]).bind fun r4=>some (r4.1,r4.2):=aj
end
end Go.Ab
namespace Go.Ab
open Go.Proofs.Tryz
def jY(m:af)(ds:List Nat):NV:=if ds=[] then ⟨true,.full,[]⟩ else ⟨false,.tok m.length 161,ds⟩
def kK(m:af)(ds:List Nat):af:=if ds=[] then m else lw m ds.length
def mI(ds:List Nat):NV:=if ds=[] then ⟨true,.full,[]⟩ else ⟨false,.no,ds⟩
theorem qcU(m:af)(ds:List Nat):(jY m ds).fr=mI ds:=by unfold jY mI;split<;>rfl
theorem qcS(ds:List Nat):(mI ds).fr=mI ds:=by unfold mI;split<;>rfl
theorem qE(ds:List Nat):(mI ds).ds=ds:=by
 unfold mI
 split
 .rename_i h;rw[h]
 .rfl
theorem Du(m:af)(ds:List Nat):Fz (jY m ds).av (mI ds).av:=by
 have:=bT (jY m ds)
 rwa [qcU] at this
theorem qcT{ds:List Nat}(h:Dg ds)(h':ds.length<2^40):NOk (mI ds):=by
 refine ⟨by rw[qE];exact h,by rw[qE];exact h',?_⟩;unfold mI
 split
 .intro _;rfl
 .intro h;cases h
theorem Ml(ds:List Nat):(mI ds).v=val ds:=by rw[NV.v,qE]
theorem pu{R:Type}{x y:Option R}:au (.bool true) x y=x:=rfl
theorem rA{R:Type}{x y:Option R}:au (.bool false) x y=y:=rfl
theorem Jh{m:af}{ds:List Nat}{z:Bool}{o:Own}(h:ds.length*4<=fq):bF none false 161 none 4 m aw (.lst none z o (ds.map dg))=some ((jY m ds).av,kK m ds):=by
 cases ds with
 | nil=>rfl
 | cons d ds=>
  have h2:(ds.length+1)*4<=fq:=by simpa using h
  simp only[jY,kK,NV.av,bF,cU,a8,bq,bA,bj,h2,aY,aC,lw,Sh.size,bX,reduceCtorEq,jJ,iE,or_true,bj]
theorem CR{m:af}{ds:List Nat}{v:Nat}(h:(ds.length+1)*4<=fq):bF none false 161 none 4 (kK m ds) (jY m ds).av (.lst none false .full [.int .u32 v])=some ((jY m (ds++[v])).av,kK m (ds++[v])):=by
 cases ds with
 | nil=>exact Jh (ds:=[v]) h
 | cons d ds=>
  have:=yX (e:=161) (b:=4) (m:=m) (es:=(d::ds).map dg) (z:=false) (o:=.full) (y:=.int .u32 v) (by rw[bA];exact h);rw[bA] at this;simp only[jY,kK,reduceCtorEq,jJ,NV.av];rw[this];simp[dg,jY,kK]
def bz(n:Nat):NV:=mI (aB n)
theorem iC(n:Nat):(bz n).fr=bz n:=qcS _
theorem iM(n:Nat):(bz n).ds=aB n:=qE _
theorem fh(n:Nat):(bz n).v=n:=by rw[NV.v,iM,fB]
theorem fP{n:Nat}(h:(aB n).length<2^40):NOk (bz n):=qcT (eQ n) h
theorem kJ(n:Nat):aL false (bz n).av=some (.I (aB n).length):=by rw[fT,iM]
theorem fO(n:Nat):Fz (bz n).av (bz n).av:=by
 have:=bT (bz n)
 rwa [iC] at this
theorem qn(n:Nat):∀m k,bW m (k+1) (bz n).av=some ((bz n).av,[]):=by
 have:=mo (bz n)
 rwa [iC] at this
theorem Wm(x:NV)(m:af)(K:KT):∀n:Nat,n<=x.ds.length->x.ds.length<2^62->xp x.av (.I n) m K=K (.exit 0) (yt x.av (.I (ja x.ds n)) m):=by
 intro n
 induction n with
 | zero=>
  intro _ _;rw[Gc];simp[gI,au,ja]
 | succ n ih=>
  intro hn hl;have ih:=ih Z hl;rw[Gc];have h1:((n+1:Nat):Int)>0:=Z;have h2:IntKind.wrap .i64 (((n+1:Nat):Int)-1)=n:=by rw[gz]<;>omega
  simp only[gI,O,az,ai h1,mh,h2];rw[NV.av,pw Z Z];simp only[O,cr,dg,ik,az,cB];rw[ja]
  by_cases h:x.ds.getD n 0=0
  .rw[ai Z,ai h];exact ih
  .rw[ag Z,ag h]
theorem qZ(x:NV)(dx:Dg x.ds)(hl:x.ds.length<2^41):AP aa 133 [x.av]=some (bz x.v).av:=by
 have ht:=wh x.ds x.ds.length;refine cK _ _ (Du [] (aB x.v)) (lp _) (m:=kK [] (aB x.v)) ?_;rw[Up,fT,O,Wm x [] _ _ (aI _) Z,Pn];have hs:=MI (z:=x.z) (o:=x.o) (ds:=x.ds) (k:=.i64) (i:=ja x.ds x.ds.length) Z Z;rw[<- NV.av] at hs;rw[hs,O];have he:x.ds.take (ja x.ds x.ds.length)=aB x.v:=jb dx;have hdl:=JJ dx;rw[cB,he,Jh (by rw[NV.v];simp only[fq];omega)]
 rfl
theorem mU{x:NV}(h:NOk x):AP aa 133 [x.av]=some (bz x.v).av:=qZ x h.dg (by have:=h.len;omega)
theorem o8{x:NV}{i:Nat}(h:NOk x)(hi:i<2^60):AP aa 135 [x.av,.I i]=some (.U (x.ds.getD i 0:Nat)):=by
 have:=h.dg i;refine fH (m:=[]) ?_ (ft _ _ _) (by simp[gF]);rw[Ur,fT,O,bS,O,az]
 by_cases hl:i<x.ds.length
 .rw[ai hl,ju hl,O,iL,O,jp _ this,O]
 .rw[ag hl,ry Z];rfl
theorem WP(x y:NV)(m:af)(K:KT)(hl:x.ds.length<2^62):∀n:Nat,n<=x.ds.length->n<=y.ds.length ->
  ya x.av y.av (.I ((n:Int)-1)) m K=if jr x.ds y.ds n=0 then K (.exit 0) (Cr m) else K .ret (yG (.I (jr x.ds y.ds n)) m):=by
 intro n
 induction n with
 | zero=>
  intro _ _;rw[G6];simp[je,au,jr]
 | succ n ih=>
  intro hx hy;have ih:=ih Z Z;rw[G6,show ((n+1:Nat):Int)-1=(n:Nat) by omega,vR,O,pu];rw[ju Z,O,iL,O,ju Z,O,iL,O,dg,dg,D7,O,az]
  by_cases h:x.ds.getD n 0=y.ds.getD n 0
  .have hc:jr x.ds y.ds (n+1)=jr x.ds y.ds n:=by rw[jr,ag Z,ag Z]
   rw[hc,ag (fun hn=>hn h),mZ Z,O];exact ih
  .rw[ai h,O,iL,O,O,iL,O,bS,O,az]
   by_cases h2:x.ds.getD n 0<y.ds.getD n 0
   .have hc:jr x.ds y.ds (n+1)=-1:=by rw[jr,ai h2]
    rw[hc,ai h2];rfl
   .have hc:jr x.ds y.ds (n+1)=1:=by rw[jr,ag h2,ai Z]
    rw[hc,ag h2];rfl
theorem uU{x y:NV}(hx:NOk x)(hy:NOk y):AP aa 77 [x.av,y.av]=some (.I (fS x.v y.v)):=by
 have lx:=hx.v_len';have ly:=hy.v_len';refine fH (m:=[]) ?_ (ft _ _ _) (by simp[gF]);rw[Vj,b8 (bT x),mU hx.fr,aP,O,b8 (bT y),mU hy.fr,aP,O];rw[show x.fr.v=x.v from rfl,show y.fr.v=y.v from rfl,kJ,O,kJ,O,D7,O,az,<- JC]
 by_cases h:(aB x.v).length=(aB y.v).length
 .have hc:ph (aB x.v) (aB y.v)=jr (aB x.v) (aB y.v) (aB x.v).length:=by
   unfold ph;rw[ag Z,ag Z]
  rw[hc,ag (fun hn=>hn h),O,mZ Z,O];have:=WP (bz x.v) (bz y.v) [] (w5 (aD f77)) (by rw[iM];omega) (aB x.v).length (by rw[iM];exact aI _) (by rw[iM];omega);rw[this,SK,SJ,iM,iM]
  split
  .rename_i h0;rw[h0]
  .rfl
 .rw[ai h,O,O,bS,O,az];unfold ph
  by_cases h2:(aB x.v).length<(aB y.v).length
  .rw[ai h2,ai h2]
  .have h3:(aB x.v).length>(aB y.v).length:=Z;rw[ag h2,ag h2,ai h3]
theorem yN{n:Nat}(h:n<18446744073709551616):AP aa 72 [.U n]=some (bz n).av:=by
 have hb:∀a b:Nat,cq none [.int .u32 (a:Nat),.int .u32 (b:Nat)]=some (NV.av ⟨false,.full,[a,b]⟩):=fun _ _=>rfl;have hd:Dg [n%4294967296,n/4294967296]:=jt.2 ⟨io _ Z,pj Z⟩;refine cK _ _ (fO n) (lp _) (m:=[]) ?_;rw[Ve,jq,O,AI,O,jq,O,iX (by omega:n/4294967296<4294967296),hb,O,b8 (bT _),mU (NOk.fr ⟨hd,aq,aq⟩)];simp only[aP,O,NV.fr,NV.v,val];congr 4;omega
theorem In{x:NV}(h:NOk x):AP aa 155 [x.av]=some (qJ x.v):=by
 have e:qJ x.v=ow (bz x.v).ds:=by rw[iM,qdf]
 rw[e];refine fH (m:=[]) ?_ ((J1 _).1 _) (by simp[(J1 _).2]);rw[Uy,b8 (bT x),mU h.fr];have dt:Dg (bz x.v).ds:=by rw[iM];exact eQ _
 simp only[aP,O];rw[show x.fr.v=x.v from rfl];generalize bz x.v=a at dt;rw[fT,O,kH,O,az];obtain ⟨z,o,ds⟩:=a
 match ds,dt with
 | [],_=>rfl
 | [d],dt=>
  have h0:=(jt.1 dt).1;rw[ag aq,qz,O,az,ai aq,zG aq,O,iL,O];simp only[lZ];rw[jp d h0]
  rfl
 | [d,e],dt=>
  have h0:=(jt.1 dt).1;have h1:=(jt.1 (jt.1 dt).2).1;have i1:aE none (NV.mk z o [d,e]).av (.I 1)=some (.vptr [dg e]):=rfl;rw[ag aq,qz,O,az,ag aq,Le,O,az,ai aq,i1,O,iL,O,jp e h1,O,wk h1,O,zG aq,O,iL,O];simp only[lZ];rw[jp d h0,O,wj h1 h0,O];simp only[ow,nr]
 | d::e::f::l,_=>
  rw[ag aq,qz,O,az,ag aq,Le,O,az,ag aq]
  rfl
end Go.Ab
namespace Go.Ab
open Go.Proofs.Tryz
theorem Fc{tk:TK}{a:Nat}(h:a<18446744073709551616):ae tk .rem (.U a) (.U 4294967296)=some (.U (a%4294967296:Nat)):=tS (b:=4294967296) Z h
theorem Fb{tk:TK}{a:Nat}(h:a<18446744073709551616):ae tk .quo (.U a) (.U 4294967296)=some (.U (a/4294967296:Nat)):=rY (b:=4294967296) Z h
theorem Nb{tk:TK}{a:Nat}:ae tk .gtr (.U a) (.U 0)=some (.bool (decide (a>0))):=pA
theorem DZ(a:Nat):a%4294967296%4294967296=a%4294967296:=Nat.mod_mod _ _
theorem vm(n:Nat):cq none [.int .u32 (n:Nat)]=some (.lst none false .full [.int .u32 n]):=rfl
theorem AT{x y:NV}(hx:NOk x)(hy:NOk y)(m:af)(K:KT)(i:Nat)(hi:i<2^41)(fx:x.fr=x)(fy:y.fr=y) :
  ((aF (AP aa) none (kK m (bV x.ds y.ds i).1) 135 [x.av,.I i]).bind fun r3=>
  (aF (AP aa) none r3.2 135 [y.av,.I i]).bind fun r4=>
  (ae .o .add r3.1 r4.1).bind fun v5=>
  (ae .o .add v5 (.U (bV x.ds y.ds i).2)).bind fun v6=>
  (ae .o .rem v6 (.U 4294967296)).bind fun v7=>
  (ba .u32 v7).bind fun v8=>
  (cq none [v8]).bind fun v9=>
  (bF none false 161 none 4 r4.2 (jY m (bV x.ds y.ds i).1).av v9).bind fun r10=>
  (ae .o .quo v6 (.U 4294967296)).bind fun v11=>
  (ae .o .add (.I i) (.I 1)).bind fun v12=>
  oL x.av y.av r10.1 v11 v12 r10.2 K) =
  oL x.av y.av (jY m (bV x.ds y.ds (i+1)).1).av (.U (bV x.ds y.ds (i+1)).2) (.I (i+1:Nat)) (kK m (bV x.ds y.ds (i+1)).1) K:=by
 have fzx:=bT x;have fzy:=bT y;rw[fx] at fzx;rw[fy] at fzy;have hc:=rc hx.dg hy.dg i;have h1:=hx.dg i;have h2:=hy.dg i;have hl:=qa x.ds y.ds i;have e:(bV x.ds y.ds i).2+x.ds.getD i 0+y.ds.getD i 0=x.ds.getD i 0+y.ds.getD i 0+(bV x.ds y.ds i).2:=Z;simp only[bV,e]
 rw[eC fzx (ft _ _),o8 hx Z,aP,O,eC fzy (ft _ _),o8 hy Z,aP,O,
  j0 Z,O,j0 Z,O,Fc Z,O,jq,O,DZ,vm,O,
  CR (by rw[hl];simp only[fq];omega),O,Fb Z,O,b6 Z,O]
def nz(a b:List Nat):Nat:=if (bV a b (max a.length b.length)).2>0 then max a.length b.length+1 else max a.length b.length
theorem W7{a b:List Nat}(ha:Dg a)(hb:Dg b):val (bV a b (nz a b)).1=val a+val b:=by
 have hc:=rc ha hb (max a.length b.length)
 have e1:∀n,max a.length b.length<=n->(bV a b n).2=0->val (bV a b n).1=val a+val b:=by
  intro n hn h0;have:=CN a b n;rw[h0,kh,iw,gH Z,gH Z] at this;exact this
 unfold nz
 split
 .refine e1 _ Z ?_;have o1:a.getD (max a.length b.length) 0=0:=ry Z;have o2:b.getD (max a.length b.length) 0=0:=ry Z;simp only[bV,o1,o2];omega
 .exact e1 _ (aI _) Z
theorem WO{x y:NV}(hx:NOk x)(hy:NOk y)(m:af)(K:KT)(fx:x.fr=x)(fy:y.fr=y):∀j i:Nat,i+j=max x.ds.length y.ds.length ->
  ∃v,oL x.av y.av (jY m (bV x.ds y.ds i).1).av (.U (bV x.ds y.ds i).2) (.I i) (kK m (bV x.ds y.ds i).1) K
   = K (.exit 0) (yA (jY m (bV x.ds y.ds (nz x.ds y.ds)).1).av v):=by
 have lx:=hx.len;have ly:=hy.len
 have lst:∀i,x.ds.length<=i->y.ds.length<=i->i<2^41->(bV x.ds y.ds i).2=0 ->
   oL x.av y.av (jY m (bV x.ds y.ds i).1).av (.U (bV x.ds y.ds i).2) (.I i) (kK m (bV x.ds y.ds i).1) K=K (.exit 0) (yA (jY m (bV x.ds y.ds i).1).av (kK m (bV x.ds y.ds i).1)):=by
  intro i h1 h2 h3 h4;rw[BJ,fT,O,bS,O,az,ag Z,fT,O,bS,O,az,ag Z,Nb,O,az,ag Z]
 intro j
 induction j with
 | zero=>
  intro i hi;have hi:i=max x.ds.length y.ds.length:=Z
  by_cases hc:(bV x.ds y.ds i).2>0
  .have ht:nz x.ds y.ds=i+1:=by unfold nz;rw[<- hi,ai hc]
   have o1:x.ds.getD i 0=0:=ry Z;have o2:y.ds.getD i 0=0:=ry Z;have hcc:=rc hx.dg hy.dg i;refine ⟨kK m (bV x.ds y.ds (i+1)).1,?_⟩;rw[BJ,fT,O,bS,O,az,ag Z,fT,O,bS,O,az,ag Z,Nb,O,az,ai hc,AT hx hy m K i Z fx fy,ht];exact lst (i+1) Z Z Z (by simp only[bV,o1,o2];omega)
  .have ht:nz x.ds y.ds=i:=by unfold nz;rw[<- hi,ag hc]
   rw[ht];exact ⟨_,lst i Z Z Z Z⟩
 | succ j ih=>
  intro i hi;obtain ⟨v,ih⟩:=ih (i+1) Z;refine ⟨v,?_⟩;rw[BJ,fT,O,bS,O,az]
  by_cases h1:i<x.ds.length
  .rw[ai h1,AT hx hy m K i Z fx fy];exact ih
  .rw[ag h1,fT,O,bS,O,az,ai Z,AT hx hy m K i Z fx fy];exact ih
theorem Ix{x y:NV}(hx:NOk x)(hy:NOk y)(fx:x.fr=x)(fy:y.fr=y):AP aa 76 [x.av,y.av]=some (bz (x.v+y.v)).av:=by
 have lx:=hx.len;have ly:=hy.len;obtain ⟨v,hw⟩:=WO hx hy [] (Bz (aD f76)) fx fy (max x.ds.length y.ds.length) 0 Z;have hl:=qa x.ds y.ds (nz x.ds y.ds);have hT:nz x.ds y.ds<=max x.ds.length y.ds.length+1:=by unfold nz;split<;>omega
 have hd:=CM x.ds y.ds (nz x.ds y.ds);refine cK _ _ (fO _) (lp _) (m:=v) ?_;rw[Vh];refine hw.trans ?_;rw[SG,b8 (Du _ _),qZ _ (by rw[qE];exact hd) (by rw[qE,hl];omega),Ml,W7 hx.dg hy.dg]
 rfl
def gZ(a b:List Nat):Nat->List Nat×Nat
 | 0=>([],0)
 | i+1=>if a.getD i 0<b.getD i 0+(gZ a b i).2 then ((gZ a b i).1++[a.getD i 0+4294967296-(b.getD i 0+(gZ a b i).2)],1)
  else ((gZ a b i).1++[a.getD i 0-(b.getD i 0+(gZ a b i).2)],0)
theorem wg(a b:List Nat):∀i,(gZ a b i).1.length=i
 | 0=>rfl
 | i+1=>by simp only[gZ];split<;>simp[wg a b i]
theorem Az(a b:List Nat):∀i,(gZ a b i).2<=1
 | 0=>by simp[gZ]
 | i+1=>by simp only[gZ];split<;>simp
theorem AA{a b:List Nat}(ha:Dg a)(hb:Dg b):∀i,Dg (gZ a b i).1
 | 0=>ro
 | i+1=>by
  have:=Az a b i;have h1:=ha i;have h2:=hb i;simp only[gZ]
  split
  .exact rn (AA ha hb i) (pj Z)
  .exact rn (AA ha hb i) (pj Z)
theorem qdp{a b:List Nat}(ha:Dg a)(hb:Dg b)(i:Nat):val (gZ a b i).1+vs b i=vs a i+4294967296^i*(gZ a b i).2:=by
 induction i with
 | zero=>
  rw[gZ,nh,nh]
  rfl
 | succ i ih=>
  have hl:=wg a b i;have hc:=Az a b i;have h1:=ha i;have h2:=hb i;rw[hJ,hJ,ij,gZ];obtain ⟨s1,s2⟩:=MU (x:=a.getD i 0) (y:=b.getD i 0) (v1:=4294967296) ih;rw[nr (gZ a b i).2] at s1 s2
  split
  .rename_i hlt;simp only[];rw[qL,hl,val,val,kh,iw];exact s1 hlt Z
  .rename_i hlt;simp only[];rw[qL,hl,val,val,kh,iw];exact s2 hlt
theorem qdo{a b:List Nat}(ha:Dg a)(hb:Dg b)(h:val b<=val a):val (gZ a b a.length).1=val a-val b:=by
 have h1:=qdp ha hb a.length;rw[gH (aI _),Nh ha h] at h1;have h2:=jA (AA ha hb a.length);rw[wg] at h2;have h3:=jA ha;have hc:=Az a b a.length
 have:(gZ a b a.length).2=0:=by
  apply lT;intro hn;have e:(gZ a b a.length).2=1:=Z;rw[e,ii] at h1;omega
 rw[this,kh,iw] at h1;omega
theorem WQ{x y:NV}(hx:NOk x)(hy:NOk y)(m:af)(K:KT)(fx:x.fr=x)(fy:y.fr=y):∀j i:Nat,i+j=x.ds.length ->
  uD x.av y.av (jY m (gZ x.ds y.ds i).1).av (.U (gZ x.ds y.ds i).2) (.I i) (kK m (gZ x.ds y.ds i).1) K
   = K (.exit 0) (Cs (jY m (gZ x.ds y.ds x.ds.length).1).av (kK m (gZ x.ds y.ds x.ds.length).1)):=by
 have lx:=hx.len;have fzx:=bT x;have fzy:=bT y;rw[fx] at fzx;rw[fy] at fzy;intro j
 induction j with
 | zero=>
  intro i hi;have:i=x.ds.length:=Z;subst this;rw[G7,fT,O,bS,O,az,ag Z]
 | succ j ih=>
  intro i hi;have ih:=ih (i+1) Z;have hc:=Az x.ds y.ds i;have h1:=hx.dg i;have h2:=hy.dg i;have hl:=wg x.ds y.ds i;have s1:ae .o .mul (.U 1) (.U 4294967296)=some (.U (4294967296:Nat)):=rfl;have s0:ae .o .mul (.U 0) (.U 4294967296)=some (.U (0:Nat)):=rfl;rw[G7,fT,O,bS,O,az,ai Z,eC fzy (ft _ _),o8 hy Z,aP,O,j0 Z,O,eC fzx (ft _ _),o8 hx Z,aP,O,bS,O,az];simp only[gZ] at ih
  by_cases h:x.ds.getD i 0<y.ds.getD i 0+(gZ x.ds y.ds i).2
  .rw[ai h] at ih ⊢
   rw[eC fzx (ft _ _),o8 hx Z,aP,O,s1,O,j0 Z,O,rZ Z Z,O,jq,O,vm,O,iX Z,
    CR (by rw[hl];simp only[fq];omega),O,b6 Z,O]
   exact ih
  .rw[ag h] at ih ⊢
   rw[eC fzx (ft _ _),o8 hx Z,aP,O,s0,O,j0 Z,O,rZ Z Z,O,jq,O,vm,O,iX Z,
    CR (by rw[hl];simp only[fq];omega),O,b6 Z,O]
   exact ih
def tJ(x y:NV):AV:=if x.v<y.v then .tup [tm,.I 1] else .tup [(bz (x.v-y.v)).av,.I 0]
theorem uV{x y:NV}(hx:NOk x)(hy:NOk y)(fx:x.fr=x)(fy:y.fr=y):AP aa 78 [x.av,y.av]=some (tJ x y):=by
 have lx:=hx.len;have fzx:=bT x;have fzy:=bT y;rw[fx] at fzx;rw[fy] at fzy;unfold tJ
 by_cases h:x.v<y.v
 .rw[ai h];refine cK _ _ (ql td (iR _ _)) rfl (m:=[]) ?_;rw[Ie,eC fzx fzy,uU hx hy,aP,O,bg,O,az,fS,ai h,ai Z]
 .rw[ag h];have hl:=wg x.ds y.ds x.ds.length;have hd:=AA hx.dg hy.dg x.ds.length;refine cK _ _ (ql (qn (x.v-y.v)) (iR _ _)) rfl (m:=kK [] (gZ x.ds y.ds x.ds.length).1) ?_;have hc:¬ fS x.v y.v<0:=by unfold fS;rw[ag h];split<;>omega
  rw[Ie,eC fzx fzy,uU hx hy,aP,O,bg,O,az,ag hc];refine (WQ hx hy [] _ fx fy x.ds.length 0 (by omega)).trans ?_;rw[SN,b8 (Du _ _),qZ _ (by rw[qE];exact hd) (by rw[qE,hl];omega),Ml,qdo hx.dg hy.dg (pY h)]
  rfl
theorem WN(x y:NV)(m:af)(K:KT)(i n:Nat)(s:List Nat×Nat)(hl:n<2^42)(hn:s.1.length=n)(hi:i+y.ds.length<=n)(hix:i<x.ds.length)(dx:Dg x.ds)(dy:Dg y.ds)(hs:Dg s.1)(hc:s.2<4294967296):∀j k:Nat,k+j=y.ds.length ->
  xZ x.av y.av (.arr m.length 0 n none) (.I i) (.U (fm y.ds (x.ds.getD i 0) i k s).2) (.I k) (m++[oc (fm y.ds (x.ds.getD i 0) i k s).1]) K
   = K (.exit 2) (Cq x.av y.av (.arr m.length 0 n none) (.I i) (.U (fm y.ds (x.ds.getD i 0) i y.ds.length s).2) (m++[oc (fm y.ds (x.ds.getD i 0) i y.ds.length s).1])):=by
 intro j
 induction j with
 | zero=>
  intro k hk;have:k=y.ds.length:=Z;subst this;rw[G5,fT,O,bS,O,az,ag Z]
 | succ j ih=>
  intro k hk;have ih:=ih (k+1) Z;have hx:=dx i;obtain ⟨h1,h2⟩:=ti (i:=i) dy hx hs hc k;have h3:=h1 (i+k);have h4:=dy k;have h5:x.ds.getD i 0*y.ds.getD k 0<=4294967295*4294967295:=mP Z Z;have hlen:=qy y.ds (x.ds.getD i 0) i s k;have hget:∀l,(m++[oc l])[m.length]?=some (oc l):=fun l=>sJ ..
  have hset:∀l l',(m++[oc l]).set m.length (oc l')=m++[oc l']:=by
   intro l l';rw[nZ _ _ (aI _),jQ,cG]
  rw[G5,fT,O,bS,O,az,ai Z];simp only[fm] at ih;generalize fm y.ds (x.ds.getD i 0) i k s=t at *
  rw[ju hix,O,iL,O,jp _ hx,O,ju Z,O,iL,O,jp _ h4,O,wi Z,O,iJ Z,O,de Z,O,nL (hget _) Z,O,jp _ h3,O,
   j0 Z,O,j0 Z,O,O,Fc Z,O,jq,O,DZ,de Z,O,kM (hget _) Z,hset,O,Fb Z,O,b6 Z,O]
  have e:t.2+(t.1.getD (i+k) 0+x.ds.getD i 0*y.ds.getD k 0)=x.ds.getD i 0*y.ds.getD k 0+t.1.getD (i+k) 0+t.2:=Z;rw[e] at ih;exact ih
theorem WM(x y:NV)(m:af)(K:KT)(hx:x.ds.length<2^40)(hy:y.ds.length<2^40)(dx:Dg x.ds)(dy:Dg y.ds):∀j i:Nat,i+j=x.ds.length ->
  xY x.av y.av (.arr m.length 0 (x.ds.length+y.ds.length) none) (.I i) (m++[oc (fV x.ds y.ds i)]) K
   = K (.exit 0) (Cp (.arr m.length 0 (x.ds.length+y.ds.length) none) (m++[oc (fV x.ds y.ds x.ds.length)])):=by
 intro j
 induction j with
 | zero=>
  intro i hi;have:i=x.ds.length:=Z;subst this;rw[G4,fT,O,bS,O,az,ag Z]
 | succ j ih=>
  intro i hi;have ih:=ih (i+1) Z;rw[G4,fT,O,bS,O,az,ai Z];have hb:=WN x y m (By K) i (x.ds.length+y.ds.length) (fV x.ds y.ds i,0) Z (qx ..) Z Z dx dy (rI dx dy i) aq y.ds.length 0 Z
  refine Eq.trans ?_ (hb.trans ?_)
  .rfl
  obtain ⟨h1,h2⟩:=ti (i:=i) (s:=(fV x.ds y.ds i,0)) dy (dx i) (rI dx dy i) aq y.ds.length;have hl:=qy y.ds (x.ds.getD i 0) i (fV x.ds y.ds i,0) y.ds.length;simp only[qx] at hl;have hget:∀l,(m++[oc l])[m.length]?=some (oc l):=fun l=>sJ ..
  have hset:∀l l',(m++[oc l]).set m.length (oc l')=m++[oc l']:=by
   intro l l';rw[nZ _ _ (aI _),jQ,cG]
  rw[SC,fT,O,iJ Z,O,jq,O,iX h2,de Z,O,kM (hget _) Z,hset,O,b6 Z,O];exact ih
theorem yP{x y:NV}(hx:NOk x)(hy:NOk y):AP aa 75 [x.av,y.av]=some (bz (x.v*y.v)).av:=by
 have lx:=hx.v_len';have ly:=hy.v_len';have hd:=rI (eQ x.v) (eQ y.v) (aB x.v).length;have hlen:=qx (aB x.v) (aB y.v) (aB x.v).length;have hval:=D4 (aB x.v) (aB y.v) (aB x.v).length (aI _);rw[gH (aI _),fB,fB] at hval;refine cK _ _ (fO _) (lp _) (m:=[none]) ?_;rw[Vg,b8 (bT x),mU hx.fr,aP,O,b8 (bT y),mU hy.fr,aP,O];rw[show x.fr.v=x.v from rfl,show y.fr.v=y.v from rfl,kJ,O,kJ,O,iJ Z,O,qw Z Z,O];have hw:=WM (bz x.v) (bz y.v) [] (Bx (aD f75)) (by rw[iM];omega) (by rw[iM];omega) (by rw[iM];exact eQ _) (by rw[iM];exact eQ _) (aB x.v).length 0 (by rw[iM];omega);simp only[iM] at hw
 refine Eq.trans ?_ (hw.trans ?_)
 .rfl
 have hp:=qC (cp:=AP aa) (g:=133) (m:=[]++[oc (fV (aB x.v) (aB y.v) (aB x.v).length)]) (nm:=0) (ds:=fV (aB x.v) (aB y.v) (aB x.v).length) rfl;rw[hlen] at hp;rw[Sx,show ([]:af).length=0 from rfl,hp,qZ _ hd (by simp only[hlen];omega)];simp only[NV.v] at hval ⊢;rw[hval]
 rfl
theorem Ws(x:NV)(d:Nat)(m:af)(K:KT)(hl:x.ds.length<2^40)(dx:Dg x.ds)(hd:0<d)(hd':d<4294967296):∀j k:Nat,k+j=x.ds.length ->
  xF x.av (.U d) (.arr m.length 0 x.ds.length none) (.U (fN x.ds d k).2) (.I ((j:Int)-1)) (m++[oc (fN x.ds d k).1]) K
   = K (.exit 0) (B2 (.arr m.length 0 x.ds.length none) (.U (fN x.ds d x.ds.length).2) (m++[oc (fN x.ds d x.ds.length).1])):=by
 intro j
 induction j with
 | zero=>
  intro k hk;have:k=x.ds.length:=Z;subst this;rw[Gu];simp[je,au]
 | succ j ih=>
  intro k hk;have ih:=ih (k+1) Z;have hr:=Aq (a:=x.ds) hd k;have hq:=ER (a:=x.ds) dx hd k j;have hlen:=qH x.ds d k;have hj:=dx j;have ej:x.ds.length-1-k=j:=Z;have mB:∀a:Nat,a<4294967296->ae .o .mul (.U a) (.U 4294967296)=some (.U (a*4294967296:Nat)):=fun a h=>wi (b:=4294967296) Z
  have hset:∀l l',(m++[oc l]).set m.length (oc l')=m++[oc l']:=by
   intro l l';rw[nZ _ _ (aI _),jQ,cG]
  rw[Gu,show ((j+1:Nat):Int)-1=(j:Nat) by omega,vR,O,pu];simp only[fN,ej] at ih;generalize fN x.ds d k=t at *;rw[mB _ Z,O,ju Z,O,iL,O,jp _ hj,O,j0 Z,O,rY Z Z,O,jq,O,de Z,O,iX hq,kM (sJ ..) Z,hset,O,tS Z Z,O,mZ Z,O];exact ih
theorem Ir{x:NV}{d:Nat}(hx:NOk x)(hd:0<d)(hd':d<4294967296):AP aa 170 [x.av,.U d]=some (.tup [(bz (x.v/d)).av,.U (x.v%d:Nat)]):=by
 have lx:=hx.len;obtain ⟨k1,k2⟩:=MF hx.dg hd;refine cK _ _ (ql (qn (x.v/d)) (iR _ _)) rfl (m:=[none]) ?_;rw[UH,fT,O,qw Z Z,O,O,mZ Z,O];have:=Ws x d [] (Bh (aD f170)) lx hx.dg hd hd' x.ds.length 0 Z;refine this.trans ?_;have hp:=qC (cp:=AP aa) (g:=133) (m:=[]++[oc (fN x.ds d x.ds.length).1]) (nm:=0) (ds:=(fN x.ds d x.ds.length).1) rfl;rw[qH] at hp;rw[Ar,jb (tH hx.dg hd _)] at k1;rw[Qt,show ([]:af).length=0 from rfl,hp,qZ _ (tH hx.dg hd _) (by simp only[qH];omega),k2];simp only[aP,O,NV.v];rw[Z0 k1]
 rfl
theorem yM{x:NV}(hx:NOk x):AP aa 157 [x.av]=some (bz (x.v/2)).av:=by
 refine cK _ _ (fO _) (lp _) (m:=[]) ?_;have h:=Ir (d:=2) (fP hx.v_len') Z Z;rw[fh] at h;rw[UA,b8 (bT x),mU hx.fr,aP,O,show x.fr.v=x.v from rfl,eC (fO _) (ft _ _)];simp only[];rw[show AV.int .u64 2=.int .u64 ((2:Nat):Int) from rfl,h]
 rfl
theorem qaD(ds:List Nat):ds.getD 0 0%2=val ds%2:=by
 cases ds with
 | nil=>rfl
 | cons d ds=>rw[lZ,val];omega
theorem yL{x:NV}(hx:NOk x):AP aa 156 [x.av]=some (.bool (decide (x.v%2=0))):=by
 have h0:=hx.dg 0;have h:=o8 (i:=0) hx.fr Z;refine fH (m:=[]) ?_ (vz _ _) (by simp[gF]);rw[Uz,eC (bT x) (ft _ _),show AV.int .i64 0=.int .i64 ((0:Nat):Int) from rfl,h,aP,O];simp only[NV.fr];rw[show AV.U 2=.U ((2:Nat):Int) from rfl,tS Z Z,O,kH,O,qaD]
 rfl
end Go.Ab
namespace Go.Ab
open Go.Proofs.Tryz
def gj(b:List Nat)(d s:Nat):Nat->List Nat×Nat
 | 0=>(List.replicate s 0,0)
 | i+1=>((gj b d s i).1++[(b.getD i 0*d+(gj b d s i).2)%4294967296],(b.getD i 0*d+(gj b d s i).2)/4294967296)
theorem AG(b:List Nat)(d s:Nat):∀i,(gj b d s i).1.length=s+i
 | 0=>by simp[gj]
 | i+1=>by simp only[gj,aQ,AG b d s i,a8,bq];omega
theorem E8{b:List Nat}{d:Nat}(hb:Dg b)(hd:d<4294967296)(s:Nat):∀i,(gj b d s i).2<4294967296
 | 0=>by simp[gj]
 | i+1=>by
  have:=E8 hb hd s i;have h1:=hb i;have h5:b.getD i 0*d<=4294967295*4294967295:=mP Z Z;simp only[gj];omega
theorem MZ(b:List Nat)(d s:Nat):∀i,Dg (gj b d s i).1
 | 0=>rp _
 | i+1=>rn (MZ b d s i) (pj (io _ Z))
theorem M4(b:List Nat)(d s:Nat):∀i,val (gj b d s i).1+4294967296^(s+i)*(gj b d s i).2=4294967296^s*(vs b i*d)
 | 0=>by simp[gj,AN,nh]
 | i+1=>by
  have ih:=M4 b d s i;simp only[gj,qL,AG,val,hJ];have h1:=tC (4294967296^(s+i)) 4294967296 (b.getD i 0*d+(gj b d s i).2);generalize hw:b.getD i 0*d+(gj b d s i).2=w at *;rw[<- hw,cV,hw] at h1
  have e:4294967296^s*((vs b i+4294967296^i*b.getD i 0)*d)=4294967296^s*(vs b i*d)+4294967296^(s+i)*(b.getD i 0*d):=by
   rw[eW,cV,mQ,cn,cn]
  rw[e,<- ih,<- jD,ij,kh,iw];omega
def tV(m:af)(i:Nat)(ds:List Nat):NV:=if i=0 then ⟨false,.full,ds⟩ else ⟨false,.tok m.length 161,ds⟩
def tM(m:af)(i:Nat)(ds:List Nat):af:=if i=0 then m else lw m ds.length
theorem Ji{m:af}{i:Nat}{ds:List Nat}{v:Nat}(h:(ds.length+1)*4<=fq):bF none false 161 none 4 (tM m i ds) (tV m i ds).av (.lst none false .full [.int .u32 v])=some ((tV m (i+1) (ds++[v])).av,tM m (i+1) (ds++[v])):=by
 by_cases hi:i=0
 .subst hi;simp only[tV,tM,aY,NV.av,bF,bA,a8,bq,bj,h,aC,lw,Sh.size,iE,jJ,true_or,gW,cU,mc,dg,aQ,Nat.add_eq_zero_iff,Nat.one_ne_zero,and_false,Nat.succ_ne_zero]
 .have:=yX (e:=161) (b:=4) (m:=m) (es:=ds.map dg) (z:=false) (o:=.full) (y:=.int .u32 v) (by rw[bA];exact h);rw[bA] at this;simp only[tV,tM,ag hi,NV.av,ag (Nat.succ_ne_zero i)];rw[this];simp[dg]
theorem Wt(x:NV)(d s:Nat)(m:af)(K:KT)(hl:x.ds.length<2^40)(dx:Dg x.ds)(hd:d<4294967296)(hs:s<2^40):∀j i:Nat,i+j=x.ds.length ->
  xG x.av (.U d) (tV m i (gj x.ds d s i).1).av (.U (gj x.ds d s i).2) (.I i) (tM m i (gj x.ds d s i).1) K
   = K (.exit 0) (B3 (tV m x.ds.length (gj x.ds d s x.ds.length).1).av (.U (gj x.ds d s x.ds.length).2) (tM m x.ds.length (gj x.ds d s x.ds.length).1)):=by
 intro j
 induction j with
 | zero=>
  intro i hi;have:i=x.ds.length:=Z;subst this;rw[Gv,fT,O,bS,O,az,ag Z]
 | succ j ih=>
  intro i hi;have ih:=ih (i+1) Z;have h1:=dx i;have h2:=E8 dx hd s i;have hlen:=AG x.ds d s i;have h5:x.ds.getD i 0*d<=4294967295*4294967295:=mP Z Z;simp only[gj] at ih
  rw[Gv,fT,O,bS,O,az,ai Z,ju Z,O,iL,O,jp _ h1,O,wi Z,O,j0 Z,O,Fc Z,O,jq,O,DZ,vm,O,
   Ji (by rw[hlen];simp only[fq];omega),O,Fb Z,O,b6 Z,O]
  exact ih
theorem Is{x:NV}{d s:Nat}(hx:NOk x)(hd:d<4294967296)(hs:s<2^40):AP aa 172 [x.av,.U d,.I s]=some (bz (4294967296^s*(x.v*d))).av:=by
 have lx:=hx.len;have hlen:=AG x.ds d s x.ds.length;have hc:=E8 hx.dg hd s x.ds.length;have hv:=M4 x.ds d s x.ds.length;rw[gH (aI _)] at hv;have hdg:Dg ((gj x.ds d s x.ds.length).1++[(gj x.ds d s x.ds.length).2]):=rn (MZ _ _ _ _) (pj hc)
 have hmk:rG none none (.int .u32 0) 4 [] (.I s) (.I s)=some ((NV.mk false .full (List.replicate s 0)).av,[]):=by
  have h1:(s:Int)*4<=281474976710656:=Z;have h2:(s:Int)<=9223372036854775807:=Z;have h3:(0:Int)<=s:=Z;simp only[rG,NV.av,List.map_replicate,dg];rw[ai ⟨⟨h3,trivial,h1,h2⟩,rfl,rfl⟩]
  rfl
 refine cK _ _ (fO _) (lp _) (m:=tM [] (x.ds.length+1) ((gj x.ds d s x.ds.length).1++[(gj x.ds d s x.ds.length).2])) ?_;rw[UJ,hmk,O];refine (Wt x d s [] _ lx hx.dg hd hs x.ds.length 0 (by omega)).trans ?_
 have hfz:Fz (tV [] (x.ds.length+1) ((gj x.ds d s x.ds.length).1++[(gj x.ds d s x.ds.length).2])).av (NV.mk false .no ((gj x.ds d s x.ds.length).1++[(gj x.ds d s x.ds.length).2])).av:=by
  have:=bT (tV [] (x.ds.length+1) ((gj x.ds d s x.ds.length).1++[(gj x.ds d s x.ds.length).2]));unfold tV at this ⊢;rw[ag Z] at this ⊢;exact this
 rw[Qw,jq,O,vm,O,iX hc,Ji (by rw[hlen];simp only[fq];omega),O,b8 hfz,qZ _ hdg (by simp only[aQ,hlen,a8,bq];omega)];simp only[aP,O,NV.v] at hv ⊢;rw[qL,hlen,val,val,kh,iw,hv]
theorem qcD{a b p q top lead:Nat}(hq:q*b<=a)(ha:a<(top+1)*p)(hb:lead*p<=b)(hl:0<lead):q<=top/lead:=by
 rw[yn hl];have h1:q*lead*p<=q*b:=by rw[cn];exact iF _ hb
 have h2:q*lead*p<(top+1)*p:=Z;have:=yo h2;omega
theorem qcC{a b p top lead:Nat}(ha:top*p<=a)(hb:b<=(lead+1)*p)(hb0:0<b):top/(lead+1)<=a/b:=by
 rw[yn hb0];have h1:top/(lead+1)*b<=top/(lead+1)*((lead+1)*p):=iF _ hb;rw[<- cn] at h1;have h2:top/(lead+1)*(lead+1)*p<=top*p:=fL _ (ym _ _);omega
theorem qdY{a:List Nat}{k:Nat}(ha:Dg a)(h:val a<4294967296^(k+2)):(a.getD (k+1) 0*4294967296+a.getD k 0)*4294967296^k<=val a/\val a<(a.getD (k+1) 0*4294967296+a.getD k 0+1)*4294967296^k:=by
 have h1:val a=vs a (k+2):=by
  have hz:∀j,vs a (k+2+j)=vs a (k+2):=by
   intro j
   induction j with
   | zero=>rfl
   | succ j ih=>
    rw[<- jD,hJ,ih];have hle:=Ni a (k+2+j+1);rw[hJ] at hle;have hp:4294967296^(k+2)<=4294967296^(k+2+j):=lF Z Z
    have h0:a.getD (k+2+j) 0=0:=by
     apply lT;intro hn;have:4294967296^(k+2+j)*1<=4294967296^(k+2+j)*a.getD (k+2+j) 0:=iF _ Z;omega
    rw[h0,kh,iw]
  rw[<- gH (a:=a) (i:=k+2+a.length) Z];exact hz a.length
 have h2:=qN ha k;rw[h1,hJ,hJ,ij,eW _ 1,eW,cn,bU (4294967296^k) (a.getD k 0),bU (4294967296^k) 4294967296,bU (4294967296*4294967296^k)];omega
theorem VL{x y:NV}{i n:Nat}(hx:NOk x)(hy:NOk y)(hi:i<2^40)(hn:y.ds.length=n)(hn1:1<=n)(hlead:y.ds.getD (n-1) 0≠0)(hq:x.v/(y.v*4294967296^i)<4294967296) :
  ∃lo hi:Nat,AP aa 171 [x.av,y.av,.I i]=some (.tup [.U lo,.U hi])/\lo<=x.v/(y.v*4294967296^i)/\x.v/(y.v*4294967296^i)<=hi/\hi<4294967296:=by
 have lx:=hx.len;have ly:=hy.len;obtain ⟨k,rfl⟩:∃k,n=k+1:=⟨n-1,Z⟩;rw[kU] at hlead;have hyv:y.v=vs y.ds k+4294967296^k*y.ds.getD k 0:=by rw[NV.v,<- gH (Nat.le_of_eq hn),hJ]
 have hlo:=qN hy.dg k;have hld:=hy.dg k;have hpi:0<4294967296^i:=Nat.pow_pos Z;have hpk:0<4294967296^k:=Nat.pow_pos Z
 have hyp:0<y.v:=by
  rw[hyv];have:4294967296^k*1<=4294967296^k*y.ds.getD k 0:=iF _ Z;omega
 have hb0:0<y.v*4294967296^i:=Nat.mul_pos hyp hpi
 have hb1:y.ds.getD k 0*4294967296^(k+i)<=y.v*4294967296^i:=by
  rw[mQ,<- cn];exact fL _ (by rw[hyv,bU];omega)
 have hb2:y.v*4294967296^i<=(y.ds.getD k 0+1)*4294967296^(k+i):=by
  rw[mQ,<- cn];refine fL _ ?_;rw[hyv,eW,jP,bU];omega
 have hxlt:val x.ds<4294967296^(k+i+2):=by
  rw[oW hb0] at hq;have h1:(y.ds.getD k 0+1)*4294967296^(k+i)<=4294967296*4294967296^(k+i):=fL _ hld;have h2:4294967296*(y.v*4294967296^i)<=4294967296*(4294967296*4294967296^(k+i)):=iF _ (eP hb2 h1);rw[ij,ij]
  have h3:4294967296^(k+i)*4294967296*4294967296=4294967296*(4294967296*4294967296^(k+i)):=by
   rw[bU,bU (4294967296^(k+i))]
  rw[h3];exact mN hq h2
 obtain ⟨t1,t2⟩:=qdY hx.dg hxlt;have d1:=hx.dg (k+i+1);have d2:=hx.dg (k+i);have qle:x.v/(y.v*4294967296^i)<=(x.ds.getD (k+i+1) 0*4294967296+x.ds.getD (k+i) 0)/y.ds.getD k 0:=qcD (ym _ _) t2 hb1 Z;have qge:(x.ds.getD (k+i+1) 0*4294967296+x.ds.getD (k+i) 0)/(y.ds.getD k 0+1)<=x.v/(y.v*4294967296^i):=qcC t1 hb2 hb0;have hfz:=ql (iR .u64 0) (iR .u64 0)
 have key:∃lo hi:Nat,AC aa 171 [x.av,y.av,.I i] []=some (.tup [.U lo,.U hi],[])/\lo<=x.v/(y.v*4294967296^i)/\x.v/(y.v*4294967296^i)<=hi/\hi<4294967296:=by
  have e1:i+(k+1)=k+i+1:=Z;have uB:∀a:Nat,ae .o .lss (.U a) (.U 4294967295)=some (.bool (decide (a<4294967295))):=fun a=>bS (b:=4294967295);have u0:∀a:Nat,ae .o .gtr (.U 0) (.U a)=some (.bool (decide (0>a))):=fun a=>tj (a:=0);have u0B:ae .o .gtr (.U 0) (.U 4294967295)=some (.bool false):=rfl;have uaB:∀a:Nat,ae .o .gtr (.U a) (.U 4294967295)=some (.bool (decide (a>4294967295))):=fun a=>tj (b:=4294967295);have ua1:∀a:Nat,a<4294967296->ae .o .add (.U a) (.U 1)=some (.U (a+1:Nat)):=fun a h=>j0 (b:=1) Z;rw[UI,fT,hn,O,iJ Z,O,eC (bT x) (ft _ _),o8 hx.fr Z,aP,O];rw[show x.fr.ds=x.ds from rfl,e1,wk (hx.dg _),O,O,lh Z Z,O,kU,eC (bT x) (ft _ _),o8 hx.fr Z,aP,O];rw[show x.fr.ds=x.ds from rfl,wj (hx.dg _) (hx.dg _),O,lh Z Z,O,kU,ju Z,O,iL,O,jp _ hld,O,rY Z Z,O,uB,O,az];have hdl:=qW (x.ds.getD (k+i+1) 0*4294967296+x.ds.getD (k+i) 0) (y.ds.getD k 0+1);have uq:ae .o .quo (.U (x.ds.getD (k+i+1) 0*4294967296+x.ds.getD (k+i) 0:Nat)) (.U (y.ds.getD k 0+1:Nat))=some (.U ((x.ds.getD (k+i+1) 0*4294967296+x.ds.getD (k+i) 0)/(y.ds.getD k 0+1):Nat)):=rY Z Z
  by_cases c1:(x.ds.getD (k+i+1) 0*4294967296+x.ds.getD (k+i) 0)/y.ds.getD k 0<4294967295
  .rw[ai c1,O,ua1 _ hld,O,zX,O,az]
   by_cases c2:y.ds.getD k 0+1<4294967296
   .rw[ai c2,O,uq,O,zX,O,az]
    by_cases c3:(x.ds.getD (k+i+1) 0*4294967296+x.ds.getD (k+i) 0)/(y.ds.getD k 0+1)<4294967296
    .rw[ai c3,O,uq,O,tj,O,az,ag Z];exact ⟨_,_,rfl,qge,qle,Z⟩
    .rw[ag c3,u0,O,az,ag (Nat.not_lt_zero _)];exact ⟨0,_,rfl,jd _,qle,Z⟩
   .rw[ag c2,u0,O,az,ag (Nat.not_lt_zero _)];exact ⟨0,_,rfl,jd _,qle,Z⟩
  .rw[ag c1,ua1 _ hld,O,zX,O,az]
   by_cases c2:y.ds.getD k 0+1<4294967296
   .rw[ai c2,O,uq,O,zX,O,az]
    by_cases c3:(x.ds.getD (k+i+1) 0*4294967296+x.ds.getD (k+i) 0)/(y.ds.getD k 0+1)<4294967296
    .rw[ai c3,O,uq,O,uaB,O,az,ag Z];exact ⟨_,4294967295,rfl,qge,Z,Z⟩
    .rw[ag c3,u0B,O,rA];exact ⟨0,4294967295,rfl,jd _,Z,Z⟩
   .rw[ag c2,u0B,O,rA];exact ⟨0,4294967295,rfl,jd _,Z,Z⟩
 obtain ⟨lo,hi',k1,k2⟩:=key;exact ⟨lo,hi',cK _ _ (ql (iR _ _) (iR _ _)) rfl k1,k2⟩
end Go.Ab
namespace Go.Ab
open Go.Proofs.Tryz
theorem JK{b s d:Nat}(hd:d<4294967296):(aB (4294967296^s*(b*d))).length<=s+((aB b).length+1):=by
 refine kE ?_;rw[mQ];refine Nat.mul_lt_mul_of_pos_left ?_ (Nat.pow_pos Z);have h:=jA (eQ b);rw[fB] at h;rw[ij];exact Nat.mul_lt_mul'' h hd
theorem Wp{a b i q:Nat}(K:KT)(x9:AV)(m:af)(la:(aB a).length<2^40)(lb:(aB b).length<2^40)(hi:i<2^39)(lb2:(aB b).length+i+1<2^40)(hq:q=a/(b*4294967296^i))(hb:0<b):∀(r lo hi':Nat),hi'-lo<=r->lo<=q->q<=hi'->hi'<4294967296 ->
  un (bz a).av (bz b).av x9 (.I i) (.U lo) (.U hi') m K=K (.exit 2) (BY (bz a).av (bz b).av x9 (.I i) (.U q) m):=by
 have hpi:0<4294967296^i:=Nat.pow_pos Z;have hbp:0<b*4294967296^i:=Nat.mul_pos hb hpi;intro r
 induction r with
 | zero=>
  intro lo hi' hr h1 h2 h3;have:lo=q:=Z;subst this;rw[Gf,bS,O,az,ag Z]
 | succ r ih=>
  intro lo hi' hr h1 h2 h3;rw[Gf,bS,O,az]
  by_cases hlt:lo<hi'
  .have u1:∀a:Nat,a<4294967296->ae .o .add (.U a) (.U 1)=some (.U (a+1:Nat)):=fun a h=>j0 (b:=1) Z;have u2:∀a:Nat,a<4294967298->ae .o .quo (.U a) (.U 2)=some (.U (a/2:Nat)):=fun a h=>rY (b:=2) Z Z;rw[ai hlt,rZ Z Z,O,u1 _ Z,O,u2 _ Z,O,j0 Z,O];generalize hmid:lo+(hi'-lo+1)/2=mid;have hm1:lo<mid:=Z;have hm2:mid<=hi':=Z;have hpl:=JK (b:=b) (s:=i) (d:=mid) Z;rw[vW (fO b) (ft _ _) (ft _ _),Is (fP lb) Z Z,aP,O,fh,eC (fO _) (fO a),uU (fP Z) (fP la),aP,O,qd,O,az,fh,fh]
   have hcmp:fS (4294967296^i*(b*mid)) a<=0↔mid<=q:=by
    rw[hq,yn hbp];have e:mid*(b*4294967296^i)=4294967296^i*(b*mid):=by rw[bU,bU b,cn]
    rw[e];unfold fS
    constructor
    .intro h;apply pY;intro hc;rw[ag Z,ai hc] at h;omega
    .intro h
     split
     .omega
     .rw[ag Z];omega
   by_cases hc:mid<=q
   .rw[ai (hcmp.2 hc)];exact ih mid hi' Z hc h2 h3
   .rw[ag (fun h=>hc (hcmp.1 h)),AJ Z Z,O];exact ih lo (mid-1) Z h1 Z Z
  .have:lo=q:=Z;subst this;rw[ag hlt]
structure DInv (a0 b la j:Nat) (a:Nat) (q:List Nat):Prop where
 dq:Dg q
 lq:q.length=la
 lt:a<b*4294967296^j
 eq:wn q j (la-j)*(b*4294967296^j)+a=a0
theorem DInv.step{a0 b la j a:Nat}{q:List Nat}(hb:0<b)(hj:j<la)(h:DInv a0 b la (j+1) a q) :
  a/(b*4294967296^j)<4294967296/\DInv a0 b la j (a%(b*4294967296^j)) (q.set j (a/(b*4294967296^j))):=by
 have hp:0<b*4294967296^j:=Nat.mul_pos hb (Nat.pow_pos Z);have e0:b*4294967296^(j+1)=4294967296*(b*4294967296^j):=by rw[ij,<- cn,bU]
 have hlt:=h.lt;have heq:=h.eq;rw[e0] at hlt heq;have hq:a/(b*4294967296^j)<4294967296:=by rw[oW hp];exact hlt
 refine ⟨hq,h.dq.set _ _ hq,by rw[ff,h.lq],io _ hp,?_⟩;obtain ⟨r,hr⟩:∃r,la-j=r+1:=⟨la-j-1,Z⟩;rw[hr,wz,mY (by rw[h.lq];exact hj),oD Z,<- heq,show la-(j+1)=r by omega];have h2:=oV a (b*4294967296^j);generalize b*4294967296^j=p at *;rw[eW,bU (a/p),bU 4294967296,cn];omega
theorem Wo{a0 b la:Nat}(K:KT)(hb:0<b)(lla:la<2^39)(l0:(aB a0).length<2^39)(lb:(aB b).length<2^39):∀(j a:Nat) (q:List Nat),j<=la->a<=a0->DInv a0 b la j a q ->
  ∃a' q',DInv a0 b la 0 a' q'/\xr (bz a).av (bz b).av (.arr 0 0 la none) (.I ((j:Int)-1)) [oc q] K=K (.exit 0) (BX (bz a').av (.arr 0 0 la none) [oc q']):=by
 intro j
 induction j with
 | zero=>
  intro a q _ _ hI;refine ⟨a,q,hI,?_⟩;rw[Ge];simp[je,au]
 | succ j ih=>
  intro a q hj ha hI;obtain ⟨hq,hI'⟩:=hI.step hb Z;have la':(aB a).length<2^39:=im (iQ ha) l0;have hlq:=hI.lq;obtain ⟨a',q',i1,i2⟩:=ih _ _ Z (eP (Nat.mod_le _ _) ha) hI';refine ⟨a',q',i1,?_⟩;have hbne:b≠0:=Z;have hl0:(aB b).length≠0:=fun e=>hbne (jT.1 e);obtain ⟨lo,hi',g1,g2,g3,g4⟩:=VL (i:=j) (n:=(aB b).length) (fP (n:=a) Z) (fP (n:=b) Z) Z (by rw[iM]) Z (by rw[iM];exact zd hbne) (by rw[fh,fh];exact hq);rw[fh,fh] at g2 g3;rw[Ge,show ((j+1:Nat):Int)-1=(j:Nat) by omega,vR,O,pu,vW (fO a) (fO b) (ft _ _),g1,aP,O];simp only[aT]
  rw[show ([AV.U lo,AV.U hi']:List AV)[0]?=some (.U lo) from rfl,show ([AV.U lo,AV.U hi']:List AV)[1]?=some (.U hi') from rfl,O,O,
   Wp (A9 K) _ _ Z Z Z Z rfl hb (hi'-lo) lo hi' (aI _) g2 g3 g4]
  have hpl:=JK (b:=b) (s:=j) (d:=a/(b*4294967296^j)) hq;have he:4294967296^j*(b*(a/(b*4294967296^j)))=b*4294967296^j*(a/(b*4294967296^j)):=by rw[<- cn,bU b]
  have hsub:a-4294967296^j*(b*(a/(b*4294967296^j)))=a%(b*4294967296^j):=by
   rw[he];have:=oV a (b*4294967296^j);omega
  have hle:¬ a<4294967296^j*(b*(a/(b*4294967296^j))):=by
   rw[he];have:=oV a (b*4294967296^j);omega
  rw[Pz,jq,O,iX hq,de Z,O,kM (m:=[oc q]) (n:=0) (ds:=q) rfl Z,O,vW (fO b) (ft _ _) (ft _ _),Is (fP (n:=b) Z) hq Z,aP,O,fh,
   eC (fO a) (fO (4294967296^j*(b*(a/(b*4294967296^j))))),uV (fP (n:=a) Z) (fP (n:=4294967296^j*(b*(a/(b*4294967296^j)))) Z) (iC a) (iC (4294967296^j*(b*(a/(b*4294967296^j))))),aP,O]
  unfold tJ;rw[fh,fh,ag hle,hsub];simp only[aT];rw[show ([(bz (a%(b*4294967296^j))).av,AV.I 0]:List AV)[0]?=some (bz (a%(b*4294967296^j))).av from rfl,show ([(bz (a%(b*4294967296^j))).av,AV.I 0]:List AV)[1]?=some (.I 0) from rfl,O,O,mZ Z,O];exact i2
def C6(x y:NV):AV:=if y.v=0 then .tup [tm,tm,.I 31] else .tup [(bz (x.v/y.v)).av,(bz (x.v%y.v)).av,.I 0]
theorem qcM:(bz 0).av=aw:=by rw[bz,jg];rfl
theorem Im{x y:NV}(hx:NOk x)(hy:NOk y)(lx:(aB x.v).length<2^39)(ly:(aB y.v).length<2^39):AP aa 137 [x.av,y.av]=some (C6 x y):=by
 have e1:=mU hx.fr;have e2:=mU hy.fr;rw[show x.fr.v=x.v from rfl] at e1;rw[show y.fr.v=y.v from rfl] at e2;have hX:=fP (n:=x.v) Z;have hY:=fP (n:=y.v) Z;unfold C6
 by_cases h0:y.v=0
 .rw[ai h0];refine cK _ _ (qm td td (iR _ _)) rfl (m:=[]) ?_;rw[yI,b8 (bT x),e1,aP,O,b8 (bT y),e2,aP,O,kJ,O,kH,O,az,ai (jT.2 h0)]
 .rw[ag h0];have hn0:¬ (aB y.v).length=0:=fun e=>h0 (jT.1 e)
  by_cases h2:y.v<4294967296
  .have hn1:(aB y.v).length=1:=ze.2 ⟨h0,h2⟩
   have hdig:(aB y.v).getD 0 0=y.v:=by
    rw[rq h0,lZ,iX h2]
   have hlt:x.v%y.v<y.v:=io _ Z;refine cK _ _ (qm (qn (x.v/y.v)) (qn (x.v%y.v)) (iR _ _)) rfl (m:=[]) ?_;have e4:=Ir (d:=y.v) hX Z h2;rw[fh] at e4
   rw[yI,b8 (bT x),e1,aP,O,b8 (bT y),e2,aP,O,kJ,O,kH,O,az,ag hn0,O,qz,O,az,ai hn1,
    zG (by rw[iM,hn1];omega),O,iL,O,iM,hdig,jp _ h2,O,eC (fO _) (ft _ _),e4,aP,O]
   simp only[aT]
   rw[show ([(bz (x.v/y.v)).av,AV.U (x.v%y.v:Nat)]:List AV)[0]?=some (bz (x.v/y.v)).av from rfl,show ([(bz (x.v/y.v)).av,AV.U (x.v%y.v:Nat)]:List AV)[1]?=some (AV.U (x.v%y.v:Nat)) from rfl,O,O,
    b8 (ft _ _),yN Z,aP,O]
  .have hn1:¬ (aB y.v).length=1:=fun e=>h2 (ze.1 e).2
   by_cases h3:(aB x.v).length<(aB y.v).length
   .have hlt:x.v<y.v:=by
     apply Nat.lt_of_not_le;intro h;have:=iQ h;omega
    rw[sR hlt,iX hlt];refine cK _ _ (qm (qn 0) (qn x.v) (iR _ _)) rfl (m:=[]) ?_
    rw[yI,b8 (bT x),e1,aP,O,b8 (bT y),e2,aP,O,kJ,O,kH,O,az,ag hn0,O,qz,O,az,ag hn1,
     kJ,O,O,bS,O,az,ai h3,qcM]
   .have hb:0<y.v:=kD h0
    have hI:DInv x.v y.v (aB x.v).length ((aB x.v).length-(aB y.v).length+1) x.v (List.replicate (aB x.v).length 0):=by
     refine ⟨rp _,oP,?_,?_⟩
     .have h4:=jA (eQ x.v);rw[fB] at h4;have h5:=zh (n:=y.v) (k:=(aB y.v).length-1) Z;refine mN h4 ?_;refine eP ?_ (fL _ h5);rw[<- mQ];exact lF Z Z
     .rw[Fh _ (fun k _=>zB _ _),p5,bj]
    obtain ⟨a',q',i1,i2⟩:=Wo (A8 (aD f137)) hb lx lx ly _ _ _ Z (aI _) hI;have heq:=i1.eq;have hlt:=i1.lt;have hlq:=i1.lq;rw[Nat.pow_zero,ii] at heq hlt;rw[Nat.sub_zero,wA,gH Z] at heq;obtain ⟨k1,k2⟩:=qh heq.symm hlt;refine cK _ _ (qm (qn (x.v/y.v)) (qn (x.v%y.v)) (iR _ _)) rfl (m:=[none]) ?_;have hp:=qC (cp:=AP aa) (g:=133) (m:=[oc q']) (nm:=0) (ds:=q') rfl;rw[hlq] at hp
    rw[yI,b8 (bT x),e1,aP,O,b8 (bT y),e2,aP,O,kJ,O,kH,O,az,ag hn0,O,qz,O,az,ag hn1,
     kJ,O,O,bS,O,az,ag h3,O,qw Z Z,O,O,O,jI Z Z,O]
    rw[show (((aB x.v).length-(aB y.v).length+1:Nat):Int)-1=(((aB x.v).length-(aB y.v).length:Nat):Int) by omega] at i2
    refine Eq.trans ?_ (i2.trans ?_)
    .rfl
    rw[Pu,hp,qZ _ i1.dq (by simp only[hlq];omega),aP,O];simp only[NV.v] at k1 k2 ⊢;rw[k1,k2]
    rfl
end Go.Ab
namespace Go.Ab
open Go.Proofs.Tryz
theorem qd0{tk:TK}{a:Nat}(h:a<4294967296):ae tk .quo (.int .u32 a) (.int .u32 2)=some (.int .u32 (a/2:Nat)):=by
 have e:ae tk .quo (.int .u32 a) (.int .u32 2)=some (.int .u32 (IntKind.wrap .u32 ((a:Int).tdiv 2))):=by cases tk<;>rfl
 have e2:(a:Int).tdiv 2=((a/2:Nat):Int):=rfl;rw[e,e2,se Z Z]
theorem Wn(K:KT)(m:af):∀(r x n:Nat),x<2^r->r<=32->n+r<2^60->∃k,k<=n+r/\(0<n\/0<x->0<k)/\(n=0->x=0->k=0)/\xq (.I n) (.int .u32 x) m K=K (.exit 0) (BW (.I k) m):=by
 intro r
 induction r with
 | zero=>
  intro x n hx hr hn;have:x=0:=by simpa using hx
  subst this;refine ⟨n,Z,Z,fun h _=>h,?_⟩;rw[Gd,pA,O,az,ag Z]
 | succ r ih=>
  intro x n hx hr hn;rw[Gd,pA,O,az]
  by_cases h:x>0
  .have hp:2^(r+1)<=2^32:=lF Z hr;rw[ai h,b6 Z,O,qd0 Z,O];rw[ij] at hx;obtain ⟨k,k1,k2,k3,k4⟩:=ih (x/2) (n+1) Z Z Z;exact ⟨k,Z,fun _=>k2 (.inl Z),Z,k4⟩
  .rw[ag h];exact ⟨n,Z,Z,fun h _=>h,rfl⟩
theorem VI{x:NV}(hx:NOk x):∃k:Nat,AP aa 136 [x.av]=some (.I k)/\(k=0↔x.v=0):=by
 have lx:=hx.v_len';have e1:=mU hx.fr;rw[show x.fr.v=x.v from rfl] at e1
 by_cases h0:x.v=0
 .refine ⟨0,fH (m:=[]) (v:=.I (0:Nat)) ?_ (ft _ _ _) (by simp[gF]),by simp[h0]⟩;rw[H3,b8 (bT x),e1,aP,O,kJ,O,kH,O,az,ai (jT.2 h0)]
  rfl
 .have hn0:¬ (aB x.v).length=0:=fun e=>h0 (jT.1 e);have hlast:=zd h0;have hd:=eQ x.v ((aB x.v).length-1);obtain ⟨k,k1,k2,k3,k4⟩:=Wn (A7 (aD f136)) [] 32 ((aB x.v).getD ((aB x.v).length-1) 0) (32*((aB x.v).length-1)) Z Z Z
  have m32:∀a:Nat,a<2^41->ae .o .mul (.I 32) (.I a)=some (.I (32*a:Nat)):=by
   intro a ha;rw[qe,gz Z Z];rfl
  have hkp:=k2 (.inr (kD hlast));refine ⟨k,fH (m:=[]) (v:=.I (k:Nat)) ?_ (ft _ _ _) (by simp[gF]),Z⟩;rw[H3,b8 (bT x),e1,aP,O,kJ,O,kH,O,az,ag hn0,O,lh Z Z,O,m32 _ Z,O,O,lh Z Z,O,ju (by rw[iM];omega),O,iL,O,iM];refine k4.trans ?_;rw[Pr]
theorem Dc{a:Nat}(h:a%2=0):2*(a/2)=a:=Z
theorem J5{a b:Nat}(ha:a%2=0)(hb:b%2=1):Nat.gcd (a/2) b=Nat.gcd a b:=by
 have hc:Nat.Coprime 2 b:=by
  rw[Nat.coprime_iff_gcd_eq_one,Nat.gcd_rec,hb]
  rfl
 have:=Nat.Coprime.gcd_mul_left_cancel (a/2) hc;rw[Dc ha] at this;exact this.symm
theorem zE{a:Nat}(h:(aB a).length<2^39):(aB (a/2)).length<2^39:=im (iQ (qW _ _)) h
theorem Wh(K:KT)(m:af):∀(n x y:Nat),y=n->x<18446744073709551616->y<18446744073709551616->xf (.U x) (.U y) m K=K (.exit 0) (BP (.U (Nat.gcd x y:Nat)) m):=by
 intro n
 induction n using Nat.strongRecOn with
 | ind n ih=>
  intro x y hn hx hy;rw[Tw,qbE,O,az]
  by_cases h:y=0
  .rw[ag (fun hh=>hh h),h,Nat.gcd_zero_right]
  .have hlt:x%y<y:=io _ (kD h);rw[ai h,tS h hx,O,ih (x%y) Z y (x%y) rfl hy Z,oX y,<- Nat.gcd_rec,oX]
theorem Wd(K:KT)(m:af):∀(n a b t:Nat),a=n->0<a->0<b->0<t->(aB (a*t)).length<2^39->(aB a).length<2^39->(aB b).length<2^39->(aB t).length<2^39 ->
  ∃a' b' t',0<a'/\0<b'/\0<t'/\a'<=a/\b'<=b/\(a'%2=1\/b'%2=1)/\Nat.gcd a' b'*t'=Nat.gcd a b*t/\(aB t').length<2^39/\sr (bz a).av (bz b).av (bz t).av m K=K (.exit 2) (yq (bz a').av (bz b').av (bz t').av m):=by
 intro n
 induction n using Nat.strongRecOn with
 | ind n ih=>
  intro a b t hn ha hb ht hat la lb lt;rw[Ts,b8 (fO a),yL (fP Z),fh,aP,O,az]
  by_cases h1:a%2=0
  .rw[ai h1,b8 (fO b),yL (fP Z),fh,aP,O,az]
   by_cases h2:b%2=0
   .have ea:=Dc h1;have eb:=Dc h2
    have e:a/2*(t+t)=a*t:=by
     rw[<- Nat.mul_two,<- cn,Nat.mul_right_comm,bU (a/2) 2,ea]
    have ltt:(aB (t+t)).length<2^39:=by
     refine im (iQ (b:=a*t) ?_) hat;rw[<- e];exact Nat.le_mul_of_pos_left _ Z
    obtain ⟨a',b',t',k1,k2,k3,k4,k5,k6,k7,k8,k9⟩:=ih (a/2) Z (a/2) (b/2) (t+t) rfl Z Z Z (by rw[e];exact hat) (zE la) (zE lb) ltt
    refine ⟨a',b',t',k1,k2,k3,Z,Z,k6,?_,k8,?_⟩
    .rw[k7]
     have:Nat.gcd a b=2*Nat.gcd (a/2) (b/2):=by
      conv=>lhs;rw[<- ea,<- eb]
      exact Nat.gcd_mul_left _ _ _
     rw[this,<- Nat.mul_two,<- cn,Nat.mul_right_comm,bU _ 2]
    .rw[ai h2,b8 (fO a),yM (fP Z),fh,aP,O,b8 (fO b),yM (fP Z),fh,aP,O,eC (fO t) (fO t),Ix (fP Z) (fP Z) (iC _) (iC _),fh,aP,O];exact k9
   .rw[ag h2];exact ⟨a,b,t,ha,hb,ht,aI _,aI _,.inr Z,rfl,lt,rfl⟩
  .rw[ag h1];exact ⟨a,b,t,ha,hb,ht,aI _,aI _,.inl Z,rfl,lt,rfl⟩
theorem Wf(K:KT)(m:af)(xb xt:AV)(b:Nat):∀(n a:Nat),a=n->0<a->(a%2=1\/b%2=1)->(aB a).length<2^39 ->
  ∃a',0<a'/\a'<=a/\a'%2=1/\Nat.gcd a' b=Nat.gcd a b/\xd (bz a).av xb xt m K=K (.exit 6) (BN (bz a').av xb xt m):=by
 intro n
 induction n using Nat.strongRecOn with
 | ind n ih=>
  intro a hn ha hab la;rw[Tu,b8 (fO a),yL (fP Z),fh,aP,O,az]
  by_cases h1:a%2=0
  .have hb1:b%2=1:=Z;obtain ⟨a',k1,k2,k3,k4,k5⟩:=ih (a/2) Z (a/2) rfl Z (.inr hb1) (zE la);rw[ai h1,b8 (fO a),yM (fP Z),fh,aP,O];exact ⟨a',k1,Z,k3,by rw[k4,J5 h1 hb1],k5⟩
  .rw[ag h1];exact ⟨a,ha,aI _,Z,rfl,rfl⟩
theorem Wg(K:KT)(m:af)(xa xt:AV)(a:Nat)(ha:a%2=1):∀(n b:Nat),b=n->0<b->(aB b).length<2^39 ->
  ∃b',0<b'/\b'<=b/\b'%2=1/\Nat.gcd a b'=Nat.gcd a b/\xe xa (bz b).av xt m K=K (.exit 8) (BO xa (bz b').av xt m):=by
 intro n
 induction n using Nat.strongRecOn with
 | ind n ih=>
  intro b hn hb lb;rw[Tv,b8 (fO b),yL (fP Z),fh,aP,O,az]
  by_cases h1:b%2=0
  .obtain ⟨b',k1,k2,k3,k4,k5⟩:=ih (b/2) Z (b/2) rfl Z (zE lb);rw[ai h1,b8 (fO b),yM (fP Z),fh,aP,O];exact ⟨b',k1,Z,k3,by rw[k4,oX a,J5 h1 ha,oX],k5⟩
  .rw[ag h1];exact ⟨b,hb,aI _,Z,rfl,rfl⟩
theorem We(K:KT)(m:af)(xt:AV):∀(n a b:Nat),a+b=n->0<a->(a%2=1\/b%2=1)->(aB a).length<2^39->(aB b).length<2^39 ->
  uk (bz a).av (bz b).av xt m K=K (.exit 4) (BM (bz (Nat.gcd a b)).av xt m):=by
 intro n
 induction n using Nat.strongRecOn with
 | ind n ih=>
  intro a b hn ha hab la lb;rw[Tt,kJ,O,pA,O,az]
  by_cases hb:b=0
  .rw[ag (by rw[hb,jg];simp),hb,Nat.gcd_zero_right]
  .have hl0:(aB b).length≠0:=fun e=>hb (jT.1 e);obtain ⟨a',k1,k2,k3,k4,k5⟩:=Wf (A0 K) m (bz b).av xt b a a rfl ha hab la;obtain ⟨b',j1,j2,j3,j4,j5⟩:=Wg (A1 K) m (bz a').av xt a' k3 b b rfl Z lb;have la':(aB a').length<2^39:=im (iQ k2) la;have lb':(aB b').length<2^39:=im (iQ j2) lb;rw[ai Z,k5,Ox,j5,OB,eC (fO a') (fO b'),uU (fP Z) (fP Z),fh,fh,aP,O,gI,O,az];have hg:Nat.gcd a' b'=Nat.gcd a b:=by rw[j4,k4]
   by_cases hgt:a'>b'
   .have hc:fS a' b'>0:=by unfold fS;rw[ag Z,ai hgt];omega
    rw[ai hc,eC (fO a') (fO b'),uV (fP Z) (fP Z) (iC _) (iC _),tJ,fh,fh,ag Z,aP,O];simp only[aT];rw[show ([(bz (a'-b')).av,AV.I 0]:List AV)[0]?=some (bz (a'-b')).av from rfl,show ([(bz (a'-b')).av,AV.I 0]:List AV)[1]?=some (.I 0) from rfl,O,O];have lab:(aB (a'-b')).length<2^39:=im (iQ (Nat.sub_le _ _)) la';rw[ih (b'+(a'-b')) Z b' (a'-b') rfl j1 (.inl j3) lb' lab]
    have:Nat.gcd b' (a'-b')=Nat.gcd a b:=by
     rw[<- hg,Nat.gcd_sub_self_right Z,oX]
    rw[this]
   .have hc:¬ fS a' b'>0:=by unfold fS;split<;>first|omega|(rw[ag hgt];omega)
    rw[ag hc,eC (fO b') (fO a'),uV (fP Z) (fP Z) (iC _) (iC _),tJ,fh,fh,ag Z,aP,O];simp only[aT];rw[show ([(bz (b'-a')).av,AV.I 0]:List AV)[0]?=some (bz (b'-a')).av from rfl,show ([(bz (b'-a')).av,AV.I 0]:List AV)[1]?=some (.I 0) from rfl,O,O];have lab:(aB (b'-a')).length<2^39:=im (iQ (Nat.sub_le _ _)) lb';rw[ih (a'+(b'-a')) Z a' (b'-a') rfl k1 (.inl k3) la' lab]
    have:Nat.gcd a' (b'-a')=Nat.gcd a b:=by
     rw[<- hg,Nat.gcd_sub_self_right Z]
    rw[this]
theorem VC{x y:NV}(hx:NOk x)(hy:NOk y)(lx:(aB x.v).length<2^38)(ly:(aB y.v).length<2^38):AP aa 119 [x.av,y.av]=some (bz (Nat.gcd x.v y.v)).av:=by
 have e1:=mU hx.fr;have e2:=mU hy.fr;rw[show x.fr.v=x.v from rfl] at e1;rw[show y.fr.v=y.v from rfl] at e2;have s1:=In (fP (n:=x.v) Z);have s2:=In (fP (n:=y.v) Z);rw[fh] at s1 s2
 have hx1:∀n,aT (qJ n) 1=some (.bool (decide (n<18446744073709551616))):=by
  intro n;unfold qJ;split<;>(rename_i h;simp[aT,h])
 have hx0:∀n,∃k:Nat,aT (qJ n) 0=some (.U k)/\(n<18446744073709551616->k=n):=by
  intro n;unfold qJ
  split
  .exact ⟨n,rfl,fun _=>rfl⟩
  .rename_i h;exact ⟨0,rfl,fun h'=>absurd h' h⟩
 obtain ⟨kx,hkx,hkx'⟩:=hx0 x.v;obtain ⟨ky,hky,hky'⟩:=hx0 y.v
 have big:∀{R:OM},R=((aL false (bz x.v).av).bind fun v9=>(ae .o .eql v9 (.I 0)).bind fun v10=>au v10 (some ((bz y.v).av,[])) (
   (aL false (bz y.v).av).bind fun v11=>(ae .o .eql v11 (.I 0)).bind fun v12=>au v12 (some ((bz x.v).av,[])) (
   (aF (AP aa) none [] 72 [(.U 1)]).bind fun r13=>sr (bz x.v).av (bz y.v).av r13.1 r13.2 (ub (aD f119)))))->R=some ((bz (Nat.gcd x.v y.v)).av,[]):=by
  intro R hR;rw[hR,kJ,O,kH,O,az]
  by_cases h0:x.v=0
  .rw[ai (jT.2 h0),h0,Nat.gcd_zero_left]
  .rw[ag (fun e=>h0 (jT.1 e)),kJ,O,kH,O,az]
   by_cases h1:y.v=0
   .rw[ai (jT.2 h1),h1,Nat.gcd_zero_right]
   .have h70:=yN (n:=1) Z;have l1:(aB 1).length<2^39:=im (kE (k:=1) Z) Z;obtain ⟨a',b',t',k1,k2,k3,k4,k5,k6,k7,k8,k9⟩:=Wd (ub (aD f119)) [] x.v x.v y.v 1 rfl Z Z Z (by rw[ii];omega) Z Z l1;have la':(aB a').length<2^39:=im (iQ k4) Z;have lb':(aB b').length<2^39:=im (iQ k5) Z;have lg:(aB (Nat.gcd a' b')).length<2^39:=im (iQ (Nat.gcd_le_left _ k1)) la';rw[ag (fun e=>h1 (jT.1 e)),b8 (ft _ _),show AV.int .u64 1=.int .u64 ((1:Nat):Int) from rfl,h70,aP,O,k9,On,We _ _ _ (a'+b') a' b' rfl k1 k6 la' lb',Ot,eC (fO _) (fO _),yP (fP Z) (fP Z),fh,fh,k7,ii]
    rfl
 refine cK _ _ (fO _) (lp _) (m:=[]) ?_;rw[Uc,b8 (bT x),e1,aP,O,b8 (bT y),e2,aP,O,b8 (fO _),s1,aP,O,hkx,O,hx1,O,b8 (fO _),s2,aP,O,hky,O,hx1,O,az]
 by_cases c1:x.v<18446744073709551616
 .rw[ai c1,az]
  by_cases c2:y.v<18446744073709551616
  .have hgl:Nat.gcd x.v y.v<18446744073709551616:=by
    by_cases h0:x.v=0
    .rw[h0,Nat.gcd_zero_left];exact c2
    .exact im (Nat.gcd_le_left _ (kD h0)) c1
   rw[ai c2,hkx' c1,hky' c2,Wh _ _ y.v x.v y.v rfl c1 c2,OG,b8 (ft _ _),yN hgl]
   rfl
  .rw[ag c2];exact big rfl
 .rw[ag c1];exact big rfl
end Go.Ab
namespace Go.Ab
def eR(neg:Bool)(n:Nat):Int:=if neg then -(n:Int) else n
def cL(neg:Bool)(n d:Nat):Rat:=mkRat (eR neg n) d
theorem we(neg:Bool)(n:Nat):(eR neg n).natAbs=n:=by cases neg<;>simp[eR]
theorem wa(neg:Bool)(n:Nat):cL neg n 0=0:=by simp[cL,Rat.mkRat_zero]
theorem EC(neg:Bool)(d:Nat):cL neg 0 d=0:=by
 have:eR neg 0=0:=by cases neg<;>rfl
 rw[cL,this,Rat.zero_mkRat]
theorem EA{neg:Bool}{n d:Nat}(hd:d≠0):(cL neg n d).num.natAbs=n/Nat.gcd n d:=by
 rw[cL,Rat.num_mkRat,ag hd,we,oX]
 cases neg with
 | false=>rfl
 | true=>
  have hdv:((Nat.gcd n d:Nat):Int)∣(n:Int):=Int.natCast_dvd_natCast.2 (Nat.gcd_dvd_left _ _);show (-(n:Int)/((Nat.gcd n d:Nat):Int)).natAbs=_;rw[Int.neg_ediv_of_dvd hdv,Int.natAbs_neg]
  rfl
theorem EB{neg:Bool}{n d:Nat}(hd:d≠0):(cL neg n d).den=d/Nat.gcd n d:=by
 rw[cL,Rat.den_mkRat,ag hd,we,oX]
theorem L9{neg:Bool}{n d:Nat}(hd:d≠0):decide ((cL neg n d).num<0)=(neg&&decide (n/Nat.gcd n d>0)):=by
 have hdv:((Nat.gcd n d:Nat):Int)∣(n:Int):=Int.natCast_dvd_natCast.2 (Nat.gcd_dvd_left _ _)
 have e:(cL neg n d).num=eR neg (n/Nat.gcd n d):=by
  rw[cL,Rat.num_mkRat,ag hd,we,oX]
  cases neg with
  | false=>rfl
  | true=>
   show -(n:Int)/((Nat.gcd n d:Nat):Int)=_;rw[Int.neg_ediv_of_dvd hdv]
   rfl
 rw[e]
 cases neg with
 | false=>
  rw[oI];exact eX (Int.not_lt.2 (oJ _))
 | true=>
  simp only[eR,aY,jc];exact iz.2 Z
theorem L7{neg:Bool}{n d:Nat}(hd:d≠0):cL neg n d=0↔n=0:=by
 rw[cL,Rat.mkRat_eq_zero hd];cases neg<;>simp[eR]
theorem L8(s t:Bool)(n d k e:Nat):cL s n d*cL t k e=cL (s != t) (n*k) (d*e):=by
 rw[cL,cL,cL,Rat.mkRat_mul_mkRat];congr 1;cases s<;>cases t<;>simp[eR,nU,Int.neg_mul,Int.mul_neg]
theorem Ai{s t:Bool}{n d k e:Nat}(hd:d≠0)(he:e≠0):cL s n d+cL t k e=mkRat (eR s (n*e)+eR t (k*d)) (d*e):=by
 rw[cL,cL,Rat.mkRat_add_mkRat _ _ hd he];congr 1;cases s<;>cases t<;>simp[eR,nU,Int.neg_mul]
theorem MA{s:Bool}{x y:Nat}:eR s x+eR s y=eR s (x+y):=by cases s<;>simp[eR]<;>omega
theorem My{s t:Bool}{x y:Nat}(h:s≠t)(hxy:¬ x<y):eR s x+eR t y=eR s (x-y):=by
 cases s<;>cases t<;>simp[eR] at h ⊢<;>omega
theorem Mz{s t:Bool}{x y:Nat}(h:s≠t)(hxy:x<y):eR s x+eR t y=eR t (y-x):=by
 cases s<;>cases t<;>simp[eR] at h ⊢<;>omega
structure RV where
 neg:Bool
 num:NV
 den:NV
def RV.av(r:RV):AV:=.agg [.bool r.neg,r.num.av,r.den.av]
def RV.fr(r:RV):RV:=⟨r.neg,r.num.fr,r.den.fr⟩
def RV.q(r:RV):Rat:=cL r.neg r.num.v r.den.v
structure ROk (k:Nat) (r:RV):Prop where
 num:NOk r.num
 den:NOk r.den
 ln:r.num.ds.length<=k
 ld:r.den.ds.length<=k
theorem ROk.fr{k:Nat}{r:RV}(h:ROk k r):ROk k r.fr:=⟨h.num.fr,h.den.fr,h.ln,h.ld⟩
theorem ROk.mono{k k':Nat}{r:RV}(h:ROk k r)(hk:k<=k'):ROk k' r:=⟨h.num,h.den,eP h.ln hk,eP h.ld hk⟩
theorem RV.fr_q(r:RV):r.fr.q=r.q:=rfl
theorem gQ(r:RV):Fz r.av r.fr.av:=by
 intro m;have e:bW m iI r.av=(eU (bW m 8) [.bool r.neg,r.num.av,r.den.av]).map fun r=>(.agg r.1,r.2):=rfl;rw[e];simp[eU,J2 r.neg m 7,mo r.num m 7,mo r.den m 7,RV.fr,RV.av]
theorem jv(r:RV):gF r.av=true:=by simp[RV.av,gF,jl,NV.av]
structure Can (r:RV) (q:Rat):Prop where
 neg:r.neg=decide (q.num<0)
 num:r.num.ds=aB q.num.natAbs
 den:r.den.ds=aB q.den
 numz:r.num.z=true->r.num.ds=[]
 denz:r.den.z=true->r.den.ds=[]
theorem Can.q{r:RV}{q:Rat}(h:Can r q):r.q=q:=by
 rw[RV.q,NV.v,NV.v,h.num,h.den,fB,fB,h.neg,cL]
 have e:eR (decide (q.num<0)) q.num.natAbs=q.num:=by
  by_cases hq:q.num<0
  .simp[eR,hq];omega
  .simp[eR,hq];omega
 rw[e];exact Rat.mkRat_self q
def Bd(k:Nat)(q:Rat):Prop:=(aB q.num.natAbs).length<=k/\(aB q.den).length<=k
theorem Can.ok{r:RV}{q:Rat}{k:Nat}(h:Can r q)(hb:Bd k q)(hk:k<2^40):ROk k r:=by
 refine ⟨⟨by rw[h.num];exact eQ _,by rw[h.num];exact im hb.1 hk,h.numz⟩,⟨by rw[h.den];exact eQ _,by rw[h.den];exact im hb.2 hk,h.denz⟩,by rw[h.num];exact hb.1,by rw[h.den];exact hb.2⟩
theorem Can.den0{r:RV}{q:Rat}(h:Can r q):r.den.v≠0:=by
 rw[NV.v,h.den,fB];exact q.den_nz
theorem nK{a b i j:Nat}(ha:(aB a).length<=i)(hb:(aB b).length<=j):(aB (a*b)).length<=i+j:=by
 refine kE ?_;have h1:=jA (eQ a);have h2:=jA (eQ b);rw[fB] at h1 h2;have h3:4294967296^(aB a).length<=4294967296^i:=lF Z ha;have h4:4294967296^(aB b).length<=4294967296^j:=lF Z hb;rw[mQ];exact Nat.mul_lt_mul'' Z Z
theorem DO{a b i:Nat}(ha:(aB a).length<=i)(hb:(aB b).length<=i):(aB (a+b)).length<=i+1:=by
 refine kE ?_;have h1:=jA (eQ a);have h2:=jA (eQ b);rw[fB] at h1 h2;have h3:4294967296^(aB a).length<=4294967296^i:=lF Z ha;have h4:4294967296^(aB b).length<=4294967296^i:=lF Z hb;rw[ij];omega
theorem qbh:(aB 1).length<=1:=kE Z
theorem wG{neg:Bool}{n d k:Nat}(hn:(aB n).length<=k)(hd:(aB d).length<=k)(hk:1<=k):Bd k (cL neg n d):=by
 by_cases h0:d=0
 .subst h0;rw[wa]
  refine ⟨?_,?_⟩
  .show (aB 0).length<=k;rw[jg];exact jd _
  .show (aB 1).length<=k;exact eP qbh hk
 .refine ⟨?_,?_⟩
  .rw[EA h0];exact eP (iQ (qW _ _)) hn
  .rw[EB h0];exact eP (iQ (qW _ _)) hd
theorem Mb(q:Rat):cL (decide (q.num<0)) q.num.natAbs q.den=q:=by
 have e:eR (decide (q.num<0)) q.num.natAbs=q.num:=by
  by_cases hq:q.num<0
  .simp[eR,hq];omega
  .simp[eR,hq];omega
 rw[cL,e];exact Rat.mkRat_self q
theorem qby(x:Int):∃s n,x=eR s n/\n=x.natAbs:=⟨decide (x<0),x.natAbs,by
 by_cases hq:x<0
 .simp[eR,hq];omega
 .simp[eR,hq];omega,rfl⟩
theorem NX{p q:Rat}{k l:Nat}(hp:Bd k p)(hq:Bd l q)(hk:1<=k):Bd (k+l+1) (p+q):=by
 have h1:=nK hp.1 hq.2;have h2:=nK hq.1 hp.2;rw[<- Mb p,<- Mb q,Ai p.den_nz q.den_nz];obtain ⟨s,n,e1,e2⟩:=qby (eR (decide (p.num<0)) (p.num.natAbs*q.den)+eR (decide (q.num<0)) (q.num.natAbs*p.den))
 have hle:n<=p.num.natAbs*q.den+q.num.natAbs*p.den:=by
  rw[e2];refine eP (Int.natAbs_add_le _ _) ?_;rw[we,we];exact aI _
 have h2':(aB (q.num.natAbs*p.den)).length<=k+l:=Z;have h3:=DO h1 h2';rw[e1,<- cL];exact wG (eP (iQ hle) h3) (eP (nK hp.2 hq.2) Z) Z
theorem ROk.bd{k:Nat}{r:RV}(h:ROk k r)(hk:1<=k):Bd k r.q:=wG (eP h.num.v_len h.ln) (eP h.den.v_len h.ld) hk
end Go.Ab
namespace Go.Ab
def cR(r:RV):Option Ent:=some (.B [.bool r.neg,r.num.av,r.den.av])
def gy:NV:=⟨true,.full,[]⟩
def zR:RV:=⟨false,gy,gy⟩
theorem dD(m:af)(r:RV):cQ none (some 3) m r.av=some (.ptr m.length 0,m++[cR r]):=rfl
theorem d5(m:af):aC none m (.B [.bool false,gy.av,gy.av])=(m.length,m++[cR zR]):=rfl
theorem cZ(m:af):aC none m .resv=(m.length,m++[some .resv]):=rfl
theorem d6(m:af)(n:Nat):aC (some n) m (.B [.bool false,gy.av,gy.av])=(n,m.set n (cR zR)):=rfl
theorem d4(m:af)(n:Nat):aC (some n) m .resv=(n,m.set n (some .resv)):=rfl
theorem dF(n:Nat):aR 0 (.ptr n 0)=some (.ptr n 0):=rfl
theorem dG(n:Nat):aR 1 (.ptr n 0)=some (.ptr n 1):=rfl
theorem dH(n:Nat):aR 2 (.ptr n 0)=some (.ptr n 2):=rfl
theorem eD(m:af):ck m 1=m++[some .resv]:=rfl
theorem eE(m:af):ck m 2=m++[some .resv,some .resv]:=rfl
theorem dJ{M:af}{r:RV}:am none (cR r::M) (.ptr 0 0)=some (.bool r.neg):=rfl
theorem dK{M:af}{r:RV}:am none (cR r::M) (.ptr 0 1)=some (r.num.av):=rfl
theorem dI{M:af}{r:RV}:am none (cR r::M) (.ptr 0 2)=some (r.den.av):=rfl
theorem cY{M:af}{r:RV}:am (some 3) (cR r::M) (.ptr 0 0)=some r.av:=rfl
theorem c8{M:af}{r r':RV}:aM (some 3) (cR r::M) (.ptr 0 0) r'.av=some (cR r'::M):=rfl
theorem eG{M:af}{r:RV}{b:Bool}:aM none (cR r::M) (.ptr 0 0) (.bool b)=some (cR ⟨b,r.num,r.den⟩::M):=rfl
theorem dM{c0:Option Ent}{M:af}{r:RV}:am none (c0::cR r::M) (.ptr 1 0)=some (.bool r.neg):=rfl
theorem dN{c0:Option Ent}{M:af}{r:RV}:am none (c0::cR r::M) (.ptr 1 1)=some (r.num.av):=rfl
theorem dL{c0:Option Ent}{M:af}{r:RV}:am none (c0::cR r::M) (.ptr 1 2)=some (r.den.av):=rfl
theorem df{c0:Option Ent}{M:af}{r:RV}:am (some 3) (c0::cR r::M) (.ptr 1 0)=some r.av:=rfl
theorem dj{c0:Option Ent}{M:af}{r r':RV}:aM (some 3) (c0::cR r::M) (.ptr 1 0) r'.av=some (c0::cR r'::M):=rfl
theorem eH{c0:Option Ent}{M:af}{r:RV}{b:Bool}:aM none (c0::cR r::M) (.ptr 1 0) (.bool b)=some (c0::cR ⟨b,r.num,r.den⟩::M):=rfl
theorem dQ{c0 c1:Option Ent}{M:af}{r:RV}:am none (c0::c1::cR r::M) (.ptr 2 0)=some (.bool r.neg):=rfl
theorem dR{c0 c1:Option Ent}{M:af}{r:RV}:am none (c0::c1::cR r::M) (.ptr 2 1)=some (r.num.av):=rfl
theorem dP{c0 c1:Option Ent}{M:af}{r:RV}:am none (c0::c1::cR r::M) (.ptr 2 2)=some (r.den.av):=rfl
theorem dO{c0 c1:Option Ent}{M:af}{r:RV}:am (some 3) (c0::c1::cR r::M) (.ptr 2 0)=some r.av:=rfl
theorem eI{c0 c1:Option Ent}{M:af}{r r':RV}:aM (some 3) (c0::c1::cR r::M) (.ptr 2 0) r'.av=some (c0::c1::cR r'::M):=rfl
theorem eJ{c0 c1:Option Ent}{M:af}{r:RV}{b:Bool}:aM none (c0::c1::cR r::M) (.ptr 2 0) (.bool b)=some (c0::c1::cR ⟨b,r.num,r.den⟩::M):=rfl
theorem dU{c0 c1 c2:Option Ent}{M:af}{r:RV}:am none (c0::c1::c2::cR r::M) (.ptr 3 0)=some (.bool r.neg):=rfl
theorem dV{c0 c1 c2:Option Ent}{M:af}{r:RV}:am none (c0::c1::c2::cR r::M) (.ptr 3 1)=some (r.num.av):=rfl
theorem dT{c0 c1 c2:Option Ent}{M:af}{r:RV}:am none (c0::c1::c2::cR r::M) (.ptr 3 2)=some (r.den.av):=rfl
theorem dS{c0 c1 c2:Option Ent}{M:af}{r:RV}:am (some 3) (c0::c1::c2::cR r::M) (.ptr 3 0)=some r.av:=rfl
theorem eK{c0 c1 c2:Option Ent}{M:af}{r r':RV}:aM (some 3) (c0::c1::c2::cR r::M) (.ptr 3 0) r'.av=some (c0::c1::c2::cR r'::M):=rfl
theorem eL{c0 c1 c2:Option Ent}{M:af}{r:RV}{b:Bool}:aM none (c0::c1::c2::cR r::M) (.ptr 3 0) (.bool b)=some (c0::c1::c2::cR ⟨b,r.num,r.den⟩::M):=rfl
theorem dY{c0 c1 c2 c3:Option Ent}{M:af}{r:RV}:am none (c0::c1::c2::c3::cR r::M) (.ptr 4 0)=some (.bool r.neg):=rfl
theorem dZ{c0 c1 c2 c3:Option Ent}{M:af}{r:RV}:am none (c0::c1::c2::c3::cR r::M) (.ptr 4 1)=some (r.num.av):=rfl
theorem dX{c0 c1 c2 c3:Option Ent}{M:af}{r:RV}:am none (c0::c1::c2::c3::cR r::M) (.ptr 4 2)=some (r.den.av):=rfl
theorem dW{c0 c1 c2 c3:Option Ent}{M:af}{r:RV}:am (some 3) (c0::c1::c2::c3::cR r::M) (.ptr 4 0)=some r.av:=rfl
theorem eM{c0 c1 c2 c3:Option Ent}{M:af}{r r':RV}:aM (some 3) (c0::c1::c2::c3::cR r::M) (.ptr 4 0) r'.av=some (c0::c1::c2::c3::cR r'::M):=rfl
theorem eN{c0 c1 c2 c3:Option Ent}{M:af}{r:RV}{b:Bool}:aM none (c0::c1::c2::c3::cR r::M) (.ptr 4 0) (.bool b)=some (c0::c1::c2::c3::cR ⟨b,r.num,r.den⟩::M):=rfl
theorem c6(a:AV)(l:List AV):aT (.tup (a::l)) 0=some a:=rfl
theorem c7(a b:AV)(l:List AV):aT (.tup (a::b::l)) 1=some b:=rfl
theorem dE(a b c:AV)(l:List AV):aT (.tup (a::b::c::l)) 2=some c:=rfl
theorem dr:e9 (.agg [.bool false,gy.av,gy.av]) []=some zR.av:=rfl
theorem dC(x:NV):e9 (.agg [.bool false,gy.av,gy.av]) [(2,none,x.av)]=some (RV.av ⟨false,gy,x⟩):=rfl
theorem dz(x y:NV):e9 (.agg [.bool false,gy.av,gy.av]) [(1,none,x.av),(2,none,y.av)]=some (RV.av ⟨false,x,y⟩):=rfl
theorem dw(b:Bool)(x y:NV):e9 (.agg [.bool false,gy.av,gy.av]) [(0,none,.bool b),(1,none,x.av),(2,none,y.av)]=some (RV.av ⟨b,x,y⟩):=rfl
theorem d8:aw=gy.av:=rfl
theorem d9(b:Bool):il .not (.bool b)=some (.bool (!b)):=rfl
theorem dp(a b:Bool):ae .bl .eql (.bool a) (.bool b)=some (.bool (a==b)):=rfl
section
variable {cp:Nat->List AV->Option AV} {d:Option Nat} {m:af} {g:Nat}
theorem eh(x:NV):aF cp d m g [x.av]=(cp g [x.fr.av]).map fun v=>(v,m):=b8 (bT x)
theorem cX(k:IntKind)(n:Int):aF cp d m g [.int k n]=(cp g [.int k n]).map fun v=>(v,m):=b8 (ft k n)
theorem eo(x y:NV):aF cp d m g [x.av,y.av]=(cp g [x.fr.av,y.fr.av]).map fun v=>(v,m):=eC (bT x) (bT y)
theorem dh(b:Bool)(x y:NV):aF cp d m g [.bool b,x.av,y.av]=(cp g [.bool b,x.fr.av,y.fr.av]).map fun v=>(v,m):=vW (vz b) (bT x) (bT y)
theorem ew(r:RV):aF cp d m g [r.av]=(cp g [r.fr.av]).map fun v=>(v,m):=b8 (gQ r)
theorem ez(r s:RV):aF cp d m g [r.av,s.av]=(cp g [r.fr.av,s.fr.av]).map fun v=>(v,m):=eC (gQ r) (gQ s)
theorem ef:aF cp d m g []=(cp g []).map fun v=>(v,m):=Ep
end
theorem qau(m:af)(r:RV):bW m 8 r.av=some (r.fr.av,[]):=by
 have e:bW m 8 r.av=(eU (bW m 7) [.bool r.neg,r.num.av,r.den.av]).map fun r=>(.agg r.1,r.2):=rfl;rw[e];simp[eU,J2 r.neg m 6,mo r.num m 6,mo r.den m 6,RV.fr,RV.av]
theorem vA(r:RV){b b':AV}(hb:∀m k,bW m (k+1) b=some (b',[])):Fz (.tup [r.av,b]) (.tup [r.fr.av,b']):=by
 intro m;show (eU (bW m 8) [r.av,b]).map _=_;simp[eU,qau,hb m 7]
end Go.Ab
namespace Go.Ab
structure LV where
 sh:Sh
 z:Bool
 o:Own
 es:List RV
def LV.av(l:LV):AV:=.lst l.sh l.z l.o (l.es.map RV.av)
def LV.fr(l:LV):LV:=⟨l.sh,l.z,l.o.fr,l.es⟩
structure LOk (k:Nat) (l:LV):Prop where
 sh:l.sh=some 3\/l.es=[]
 z:l.z=true->l.es=[]
 fr:∀r∈l.es,r.fr=r
 ok:∀r∈l.es,ROk k r
structure MV where
 rows:Int
 cols:Int
 lv:LV
def MV.av(x:MV):AV:=.agg [.I x.rows,.I x.cols,x.lv.av]
def MV.fr(x:MV):MV:=⟨x.rows,x.cols,x.lv.fr⟩
theorem LOk.fr'{k:Nat}{l:LV}(h:LOk k l):LOk k l.fr:=⟨h.sh,h.z,h.fr,h.ok⟩
end Go.Ab
namespace Go.Ab
noncomputable section
variable (a0 a1 a2:AV) (m:af)
open Go.Proofs.Tryz
theorem uS:AC aa 71 [a0,a1] m=(cQ none (some 3) m a0).bind fun r1=>(cQ none (some 3) r1.2 a1).bind fun r2=>(am (some 3) (aC none r2.2 (.B [(.bool false),aw,aw])).2 r1.1).bind fun v3=>(aF (AP aa) none (aC none r2.2 (.B [(.bool false),aw,aw])).2 129 [v3]).bind fun r4=>(ae .o .eql r4.1 (.I 0)).bind fun v5=>au v5 ((aR 0 r2.1).bind fun v6=>(am none r4.2 v6).bind fun v7=>(aR 1 r2.1).bind fun v8=>(am none r4.2 v8).bind fun v9=>(aR 2 r2.1).bind fun v10=>(am none r4.2 v10).bind fun v11=>(aF (AP aa) none r4.2 126 [v7,v9,v11]).bind fun r12=>(aM (some 3) r12.2 (.ptr (aC none r2.2 .resv).1 0) r12.1).bind fun m13=>(am (some 3) m13 (.ptr (aC none r2.2 .resv).1 0)).bind fun v14=>some (v14,m13)) ((am (some 3) r4.2 r2.1).bind fun v15=>(aF (AP aa) none r4.2 129 [v15]).bind fun r16=>(ae .o .eql r16.1 (.I 0)).bind fun v17=>au v17 ((aR 0 r1.1).bind fun v18=>(am none r16.2 v18).bind fun v19=>(aR 1 r1.1).bind fun v20=>(am none r16.2 v20).bind fun v21=>(aR 2 r1.1).bind fun v22=>(am none r16.2 v22).bind fun v23=>(aF (AP aa) none r16.2 126 [v19,v21,v23]).bind fun r24=>(aM (some 3) r24.2 (.ptr (aC none r2.2 .resv).1 0) r24.1).bind fun m25=>(am (some 3) m25 (.ptr (aC none r2.2 .resv).1 0)).bind fun v26=>some (v26,m25)) ((aR 1 r1.1).bind fun v27=>(am none r16.2 v27).bind fun v28=>(aR 2 r2.1).bind fun v29=>(am none r16.2 v29).bind fun v30=>(aF (AP aa) (some r16.2.length) r16.2 127 [v28,v30]).bind fun r31=>(aR 1 r2.1).bind fun v32=>(am none r31.2 v32).bind fun v33=>(aR 2 r1.1).bind fun v34=>(am none r31.2 v34).bind fun v35=>(aF (AP aa) (some r16.2.length) r31.2 127 [v33,v35]).bind fun r36=>(aR 2 r1.1).bind fun v37=>(am none r36.2 v37).bind fun v38=>(aR 2 r2.1).bind fun v39=>(am none r36.2 v39).bind fun v40=>(aF (AP aa) (some r16.2.length) r36.2 127 [v38,v40]).bind fun r41=>(aR 0 r1.1).bind fun v42=>(am none r41.2 v42).bind fun v43=>(aR 0 r2.1).bind fun v44=>(am none r41.2 v44).bind fun v45=>(ae .bl .eql v43 v45).bind fun v46=>au v46 ((aR 0 r1.1).bind fun v47=>(am none r41.2 v47).bind fun v48=>(aF (AP aa) (some r41.2.length) r41.2 130 [r31.1,r36.1]).bind fun r49=>(aF (AP aa) (some r41.2.length) r49.2 126 [v48,r49.1,r41.1]).bind fun r50=>(aM (some 3) r50.2 (.ptr (aC none r2.2 .resv).1 0) r50.1).bind fun m51=>(am (some 3) m51 (.ptr (aC none r2.2 .resv).1 0)).bind fun v52=>some (v52,m51)) ((aF (AP aa) none r41.2 131 [r31.1,r36.1]).bind fun r53=>(ae .o .lss r53.1 (.I 0)).bind fun v54=>au v54 ((am (some 3) r53.2 r2.1).bind fun v55=>(aM (some 3) r53.2 r1.1 v55).bind fun m56=>(aF (AP aa) none m56 132 [r36.1,r31.1]).bind fun r57=>(aT r57.1 0).bind fun v58=>(aT r57.1 1).bind fun v59=>(aR 0 r1.1).bind fun v60=>(am none r57.2 v60).bind fun v61=>(aF (AP aa) none r57.2 126 [v61,v58,r41.1]).bind fun r62=>(aM (some 3) r62.2 (.ptr (aC none r2.2 .resv).1 0) r62.1).bind fun m63=>(am (some 3) m63 (.ptr (aC none r2.2 .resv).1 0)).bind fun v64=>some (v64,m63)) ((aF (AP aa) none r53.2 132 [r31.1,r36.1]).bind fun r65=>(aT r65.1 0).bind fun v66=>(aT r65.1 1).bind fun v67=>(aR 0 r1.1).bind fun v68=>(am none r65.2 v68).bind fun v69=>(aF (AP aa) none r65.2 126 [v69,v66,r41.1]).bind fun r70=>(aM (some 3) r70.2 (.ptr (aC none r2.2 .resv).1 0) r70.1).bind fun m71=>(am (some 3) m71 (.ptr (aC none r2.2 .resv).1 0)).bind fun v72=>some (v72,m71))))):=
(aZ aa 71 [a0,a1] m (fn:=f71) (c:=aA f71) YT rfl).trans aj
theorem Ua:AC aa 114 [] m=(aF (AP aa) none (aC none m (.B [(.bool false),aw,aw])).2 123 [(.U 1)]).bind fun r1=>(e9 (.agg [(.bool false),aw,aw]) [(2,none,r1.1)]).bind fun v2=>(aM (some 3) r1.2 (.ptr (aC none m .resv).1 0) v2).bind fun m3=>(am (some 3) m3 (.ptr (aC none m .resv).1 0)).bind fun v4=>some (v4,m3):=
(aZ aa 114 [] m (fn:=f114) (c:=aA f114) Xu rfl).trans aj
theorem U7:AC aa 64 [] m=(aF (AP aa) none (aC none m (.B [(.bool false),aw,aw])).2 123 [(.U 1)]).bind fun r1=>(aF (AP aa) none r1.2 123 [(.U 1)]).bind fun r2=>(e9 (.agg [(.bool false),aw,aw]) [(1,none,r1.1),(2,none,r2.1)]).bind fun v3=>(aM (some 3) r2.2 (.ptr (aC none m .resv).1 0) v3).bind fun m4=>(am (some 3) m4 (.ptr (aC none m .resv).1 0)).bind fun v5=>some (v5,m4):=
(aZ aa 64 [] m (fn:=f64) (c:=aA f64) YM rfl).trans aj
theorem Vc:AC aa 69 [a0,a1] m=(cQ none (some 3) m a0).bind fun r1=>(cQ none (some 3) r1.2 a1).bind fun r2=>(aR 0 r1.1).bind fun v3=>(am none (aC none r2.2 (.B [(.bool false),aw,aw])).2 v3).bind fun v4=>(aR 0 r2.1).bind fun v5=>(am none (aC none r2.2 (.B [(.bool false),aw,aw])).2 v5).bind fun v6=>(ae .bl .neq v4 v6).bind fun v7=>(aR 1 r1.1).bind fun v8=>(am none (aC none r2.2 (.B [(.bool false),aw,aw])).2 v8).bind fun v9=>(aR 1 r2.1).bind fun v10=>(am none (aC none r2.2 (.B [(.bool false),aw,aw])).2 v10).bind fun v11=>(aF (AP aa) (some (aC none r2.2 (.B [(.bool false),aw,aw])).2.length) (aC none r2.2 (.B [(.bool false),aw,aw])).2 127 [v9,v11]).bind fun r12=>(aR 2 r1.1).bind fun v13=>(am none r12.2 v13).bind fun v14=>(aR 2 r2.1).bind fun v15=>(am none r12.2 v15).bind fun v16=>(aF (AP aa) (some (aC none r2.2 (.B [(.bool false),aw,aw])).2.length) r12.2 127 [v14,v16]).bind fun r17=>(aF (AP aa) (some (aC none r2.2 (.B [(.bool false),aw,aw])).2.length) r17.2 126 [v7,r12.1,r17.1]).bind fun r18=>(aM (some 3) r18.2 (.ptr (aC none r2.2 .resv).1 0) r18.1).bind fun m19=>(am (some 3) m19 (.ptr (aC none r2.2 .resv).1 0)).bind fun v20=>some (v20,m19):=
(aZ aa 69 [a0,a1] m (fn:=f69) (c:=aA f69) YR rfl).trans aj
theorem Uj:AC aa 129 [a0] m=(cQ none (some 3) m a0).bind fun r1=>(aR 1 r1.1).bind fun v2=>(am none r1.2 v2).bind fun v3=>(aF (AP aa) none r1.2 131 [v3,aw]).bind fun r4=>(ae .o .eql r4.1 (.I 0)).bind fun v5=>au v5 (some ((.I 0),r4.2)) ((aR 2 r1.1).bind fun v6=>(am none r4.2 v6).bind fun v7=>(aF (AP aa) none r4.2 131 [v7,aw]).bind fun r8=>(ae .o .eql r8.1 (.I 0)).bind fun v9=>au v9 (some ((.I 0),r8.2)) ((aR 0 r1.1).bind fun v10=>(am none r8.2 v10).bind fun v11=>au v11 (some ((.I (-1)),r8.2)) (some ((.I 1),r8.2)))):=
(aZ aa 129 [a0] m (fn:=f129) (c:=aA f129) XE rfl).trans aj
theorem H1:AC aa 126 [a0,a1,a2] m=(aF (AP aa) none (aC none m (.B [(.bool false),aw,aw])).2 167 [a0,a1,a2]).bind fun r1=>(aT r1.1 0).bind fun v2=>(aT r1.1 1).bind fun v3=>(aM (some 3) (aC none r1.2 (.B [(.bool false),aw,aw])).2 (.ptr (aC none r1.2 .resv).1 0) v2).bind fun m4=>(ae .o .neq v3 (.I 0)).bind fun v5=>au v5 ((aF (AP aa) none m4 114 []).bind fun r6=>(aM (some 3) r6.2 (.ptr (aC none m .resv).1 0) r6.1).bind fun m7=>(am (some 3) m7 (.ptr (aC none m .resv).1 0)).bind fun v8=>some (v8,m7)) ((am (some 3) m4 (.ptr (aC none r1.2 .resv).1 0)).bind fun v9=>(aM (some 3) m4 (.ptr (aC none m .resv).1 0) v9).bind fun m10=>(am (some 3) m10 (.ptr (aC none m .resv).1 0)).bind fun v11=>some (v11,m10)):=
(aZ aa 126 [a0,a1,a2] m (fn:=f126) (c:=aA f126) XB rfl).trans aj
theorem H6:AC aa 167 [a0,a1,a2] m=(aF (AP aa) none (aC none m (.B [(.bool false),aw,aw])).2 183 [a1,a2]).bind fun r1=>(aF (AP aa) none r1.2 131 [a2,aw]).bind fun r2=>(ae .o .eql r2.1 (.I 0)).bind fun v3=>au v3 ((e9 (.agg [(.bool false),aw,aw]) []).bind fun v4=>(aM (some 3) r2.2 (.ptr (aC none m .resv).1 0) v4).bind fun m5=>(am (some 3) m5 (.ptr (aC none m .resv).1 0)).bind fun v6=>some ((.tup [v6,(.I 31)]),m5)) ((aF (AP aa) none r2.2 187 [a1,r1.1]).bind fun r7=>(aT r7.1 0).bind fun v8=>(aT r7.1 1).bind fun v9=>(aT r7.1 2).bind fun v10=>(aF (AP aa) none r7.2 187 [a2,r1.1]).bind fun r11=>(aT r11.1 0).bind fun v12=>(aT r11.1 1).bind fun v13=>(aT r11.1 2).bind fun v14=>au a0 ((aL false v8).bind fun v15=>(ae .o .gtr v15 (.I 0)).bind fun v16=>(e9 (.agg [(.bool false),aw,aw]) [(0,none,v16),(1,none,v8),(2,none,v12)]).bind fun v17=>(aM (some 3) r11.2 (.ptr (aC none m .resv).1 0) v17).bind fun m18=>(am (some 3) m18 (.ptr (aC none m .resv).1 0)).bind fun v19=>some ((.tup [v19,(.I 0)]),m18)) ((e9 (.agg [(.bool false),aw,aw]) [(0,none,(.bool false)),(1,none,v8),(2,none,v12)]).bind fun v20=>(aM (some 3) r11.2 (.ptr (aC none m .resv).1 0) v20).bind fun m21=>(am (some 3) m21 (.ptr (aC none m .resv).1 0)).bind fun v22=>some ((.tup [v22,(.I 0)]),m21))):=
(aZ aa 167 [a0,a1,a2] m (fn:=f167) (c:=aA f167) X8 rfl).trans aj
theorem UF:AC aa 168 [a0] m=(ae .o .lss a0 (.I 0)).bind fun v1=>au v1 ((ba .u64 a0).bind fun v2=>(il .neg v2).bind fun v3=>(aF (AP aa) none m 123 [v3]).bind fun r4=>some (r4.1,r4.2)) ((ba .u64 a0).bind fun v5=>(aF (AP aa) none m 123 [v5]).bind fun r6=>some (r6.1,r6.2)):=
(aZ aa 168 [a0] m (fn:=f168) (c:=aA f168) X9 rfl).trans aj
theorem Ui:AC aa 128 [a0,a1] m=(ae .o .lss a0 (.I 0)).bind fun v1=>(ae .o .lss a1 (.I 0)).bind fun v2=>(ae .bl .neq v1 v2).bind fun v3=>(aF (AP aa) none (aC none m (.B [(.bool false),aw,aw])).2 168 [a0]).bind fun r4=>(aF (AP aa) none r4.2 168 [a1]).bind fun r5=>(aF (AP aa) none r5.2 167 [v3,r4.1,r5.1]).bind fun r6=>(aT r6.1 0).bind fun v7=>(aT r6.1 1).bind fun v8=>(aM (some 3) r6.2 (.ptr (aC none m .resv).1 0) v7).bind fun m9=>(am (some 3) m9 (.ptr (aC none m .resv).1 0)).bind fun v10=>some ((.tup [v10,v8]),m9):=
(aZ aa 128 [a0,a1] m (fn:=f128) (c:=aA f128) XD rfl).trans aj
end
end Go.Ab
namespace Go.Ab
open Go.Proofs.Tryz
theorem Ed:NOk gy:=⟨ro,by simp[gy],by simp[gy]⟩
theorem Ee:gy.v=0:=rfl
def rP:NV:=⟨false,.no,aB 1⟩
theorem Ij:AP aa 123 [.U 1]=some rP.av:=CD (n:=1) Z
def oG:RV:=⟨false,gy,rP⟩
def iU:RV:=⟨false,rP,rP⟩
theorem ZI:Can oG 0:=⟨rfl,jg.symm,rfl,fun _=>rfl,by simp[oG,rP]⟩
theorem ZH:Can iU 1:=⟨rfl,rfl,rfl,by simp[iU,rP],by simp[iU,rP]⟩
theorem VB:AP aa 114 []=some oG.av:=by
 refine cK _ _ (gQ oG) (jv _) (m:=[cR oG]) ?_;rw[Ua];simp only[O,aP,dD,d5,cZ,d6,d4,dF,dG,dH,eD,eE,dJ,dK,dI,cY,c8,eG,dM,dN,dL,df,dj,eH,dQ,dR,dP,dO,eI,eJ,dU,dV,dT,dS,eK,eL,dY,dZ,dX,dW,eM,eN,c6,c7,dE,dr,dC,dz,dw,d8,d9,dc,dp,a8,bq,aQ,bX,cc,aW,bj,cG,dn,eO,eh,cX,eo,dh,ew,ez,ef,Ij]
 rfl
theorem V3:AP aa 64 []=some iU.av:=by
 refine cK _ _ (gQ iU) (jv _) (m:=[cR iU]) ?_;rw[U7];simp only[O,aP,dD,d5,cZ,d6,d4,dF,dG,dH,eD,eE,dJ,dK,dI,cY,c8,eG,dM,dN,dL,df,dj,eH,dQ,dR,dP,dO,eI,eJ,dU,dV,dT,dS,eK,eL,dY,dZ,dX,dW,eM,eN,c6,c7,dE,dr,dC,dz,dw,d8,d9,dc,dp,a8,bq,aQ,bX,cc,aW,bj,cG,dn,eO,eh,cX,eo,dh,ew,ez,ef,Ij]
 rfl
theorem s8(n:Nat):(fS n 0=0)↔n=0:=by unfold fS;constructor<;>intro h<;>(repeat' split at *)<;>omega
theorem Ip{x y:NV}(neg:Bool)(hx:NOk x)(hy:NOk y):(y.v=0/\AP aa 167 [.bool neg,x.av,y.av]=some (.tup [zR.av,.I 31])) \/
  (y.v≠0/\∃r:RV,AP aa 167 [.bool neg,x.av,y.av]=some (.tup [r.av,.I 0])/\Can r (cL neg x.v y.v)/\r.fr=r):=by
 have e1:=VM hx.fr hy.fr;have e2:=ra hy.fr Ed;have hg:=qaB hx.fr hy.fr;have hgf:(jk x.fr y.fr).fr=jk x.fr y.fr:=qaA _ _;have hgv:(jk x.fr y.fr).v=Nat.gcd x.v y.v:=qaC _ _;have e3:=CE hx.fr hg;have e4:=CE hy.fr hg;have nf:gy.fr=gy:=rfl;have hyv:y.fr.v=y.v:=rfl;rw[Ee,hyv] at e2
 by_cases h0:y.v=0
 .refine .inl ⟨h0,cK _ _ (vA zR (iR _ _)) rfl (m:=[cR zR]) ?_⟩;rw[H6];simp only[O,aP,dD,d5,cZ,d6,d4,dF,dG,dH,eD,eE,dJ,dK,dI,cY,c8,eG,dM,dN,dL,df,dj,eH,dQ,dR,dP,dO,eI,eJ,dU,dV,dT,dS,eK,eL,dY,dZ,dX,dW,eM,eN,c6,c7,dE,dr,dC,dz,dw,d8,d9,dc,dp,a8,bq,aQ,bX,cc,aW,bj,cG,dn,eO,eh,cX,eo,dh,ew,ez,ef,e1,nf,e2,ik,az];rw[ai ((s8 _).2 h0)]
 .refine .inr ⟨h0,?_⟩
  have hgp:Nat.gcd x.v y.v≠0:=by
   have:=Nat.gcd_pos_of_pos_right x.v (kD h0);omega
  have hgn:¬ (jk x.fr y.fr).v=0:=by rw[hgv];exact hgp
  unfold zm at e3 e4;rw[ag hgn] at e3 e4;have hq:(iZ x.fr (jk x.fr y.fr)).ds=aB (x.v/Nat.gcd x.v y.v):=by rw[zi,hgv];rfl
  have hd:(iZ y.fr (jk x.fr y.fr)).ds=aB (y.v/Nat.gcd x.v y.v):=by rw[zi,hgv];rfl
  refine ⟨⟨neg&&decide (x.v/Nat.gcd x.v y.v>0),iZ x.fr (jk x.fr y.fr),iZ y.fr (jk x.fr y.fr)⟩,?_,⟨(L9 h0).symm,?_,?_,(JL hx.fr).nil,(JL hy.fr).nil⟩,?_⟩
  .refine (cK _ _ (vA ⟨neg&&decide (x.v/Nat.gcd x.v y.v>0),iZ x.fr (jk x.fr y.fr),iZ y.fr (jk x.fr y.fr)⟩ (iR .i64 0)) rfl (m:=[cR ⟨neg&&decide (x.v/Nat.gcd x.v y.v>0),iZ x.fr (jk x.fr y.fr),iZ y.fr (jk x.fr y.fr)⟩]) ?_).trans (by simp only[RV.fr,vt]);rw[H6];simp only[O,aP,dD,d5,cZ,d6,d4,dF,dG,dH,eD,eE,dJ,dK,dI,cY,c8,eG,dM,dN,dL,df,dj,eH,dQ,dR,dP,dO,eI,eJ,dU,dV,dT,dS,eK,eL,dY,dZ,dX,dW,eM,eN,c6,c7,dE,dr,dC,dz,dw,d8,d9,dc,dp,a8,bq,aQ,bX,cc,aW,bj,cG,dn,eO,eh,cX,eo,dh,ew,ez,ef,e1,nf,e2,ik,az];rw[ag (fun h=>h0 ((s8 _).1 h))];simp only[O,aP,dD,d5,cZ,d6,d4,dF,dG,dH,eD,eE,dJ,dK,dI,cY,c8,eG,dM,dN,dL,df,dj,eH,dQ,dR,dP,dO,eI,eJ,dU,dV,dT,dS,eK,eL,dY,dZ,dX,dW,eM,eN,c6,c7,dE,dr,dC,dz,dw,d8,d9,dc,dp,a8,bq,aQ,bX,cc,aW,bj,cG,dn,eO,eh,cX,eo,dh,ew,ez,ef,hgf,e3,e4,fT,pA,hq]
   have hlen:decide ((aB (x.v/Nat.gcd x.v y.v)).length>0)=decide (x.v/Nat.gcd x.v y.v>0):=iz.2 (by
    constructor
    .intro h;apply kD;intro e;rw[e,jg] at h;simp at h
    .intro h;have:(aB (x.v/Nat.gcd x.v y.v)).length≠0:=fun e=>by have:=jT.1 e;omega
     omega)
   cases neg with
   | false=>rfl
   | true=>
    rw[pu,hlen];simp only[O,aP,dD,d5,cZ,d6,d4,dF,dG,dH,eD,eE,dJ,dK,dI,cY,c8,eG,dM,dN,dL,df,dj,eH,dQ,dR,dP,dO,eI,eJ,dU,dV,dT,dS,eK,eL,dY,dZ,dX,dW,eM,eN,c6,c7,dE,dr,dC,dz,dw,d8,d9,dc,dp,a8,bq,aQ,bX,cc,aW,bj,cG,dn,eO,eh,cX,eo,dh,ew,ez,ef,jc]
  .rw[EA h0];exact hq
  .rw[EB h0];exact hd
  .simp only[RV.fr,vt]
theorem qej:oG.fr=oG:=rfl
theorem yK{x y:NV}(neg:Bool)(hx:NOk x)(hy:NOk y):∃r:RV,AP aa 126 [.bool neg,x.av,y.av]=some r.av/\Can r (cL neg x.v y.v)/\r.fr=r:=by
 rcases Ip neg hx.fr hy.fr with ⟨h0,h1⟩|⟨h0,r,h1,h2,h3⟩
 .refine ⟨oG,cK _ _ (gQ oG) (jv _) (m:=[cR oG,cR zR]) ?_,?_,qej⟩
  .rw[H1];simp only[O,aP,dD,d5,cZ,d6,d4,dF,dG,dH,eD,eE,dJ,dK,dI,cY,c8,eG,dM,dN,dL,df,dj,eH,dQ,dR,dP,dO,eI,eJ,dU,dV,dT,dS,eK,eL,dY,dZ,dX,dW,eM,eN,c6,c7,dE,dr,dC,dz,dw,d8,d9,dc,dp,a8,bq,aQ,bX,cc,aW,bj,cG,dn,eO,eh,cX,eo,dh,ew,ez,ef,h1,gt,az];rw[ai (by decide)];simp only[O,aP,dD,d5,cZ,d6,d4,dF,dG,dH,eD,eE,dJ,dK,dI,cY,c8,eG,dM,dN,dL,df,dj,eH,dQ,dR,dP,dO,eI,eJ,dU,dV,dT,dS,eK,eL,dY,dZ,dX,dW,eM,eN,c6,c7,dE,dr,dC,dz,dw,d8,d9,dc,dp,a8,bq,aQ,bX,cc,aW,bj,cG,dn,eO,eh,cX,eo,dh,ew,ez,ef,VB]
  .have:y.v=0:=h0;rw[this,wa];exact ZI
 .refine ⟨r,(cK _ _ (gQ r) (jv _) (m:=[cR r,cR r]) ?_).trans (by rw[h3]),h2,h3⟩;rw[H1];simp only[O,aP,dD,d5,cZ,d6,d4,dF,dG,dH,eD,eE,dJ,dK,dI,cY,c8,eG,dM,dN,dL,df,dj,eH,dQ,dR,dP,dO,eI,eJ,dU,dV,dT,dS,eK,eL,dY,dZ,dX,dW,eM,eN,c6,c7,dE,dr,dC,dz,dw,d8,d9,dc,dp,a8,bq,aQ,bX,cc,aW,bj,cG,dn,eO,eh,cX,eo,dh,ew,ez,ef,h1,gt,az];rw[ag (by decide)]
def ng(r:RV):Int:=if r.num.v=0\/r.den.v=0 then 0 else if r.neg then -1 else 1
theorem Ik{r:RV}{k:Nat}(h:ROk k r):AP aa 129 [r.av]=some (.I (ng r)):=by
 have nf:gy.fr=gy:=rfl;have e1:=ra h.num.fr Ed;have e2:=ra h.den.fr Ed;have v1:r.num.fr.v=r.num.v:=rfl;have v2:r.den.fr.v=r.den.v:=rfl;rw[Ee,v1] at e1;rw[Ee,v2] at e2;refine cK _ _ (ft _ _) rfl (m:=[cR r]) ?_;rw[Uj];simp only[O,aP,dD,d5,cZ,d6,d4,dF,dG,dH,eD,eE,dJ,dK,dI,cY,c8,eG,dM,dN,dL,df,dj,eH,dQ,dR,dP,dO,eI,eJ,dU,dV,dT,dS,eK,eL,dY,dZ,dX,dW,eM,eN,c6,c7,dE,dr,dC,dz,dw,d8,d9,dc,dp,a8,bq,aQ,bX,cc,aW,bj,cG,dn,eO,eh,cX,eo,dh,ew,ez,ef,nf,e1,ik,az];unfold ng
 by_cases h1:r.num.v=0
 .rw[ai ((s8 _).2 h1),ai (.inl h1)]
 .rw[ag (fun h=>h1 ((s8 _).1 h))];simp only[O,aP,dD,d5,cZ,d6,d4,dF,dG,dH,eD,eE,dJ,dK,dI,cY,c8,eG,dM,dN,dL,df,dj,eH,dQ,dR,dP,dO,eI,eJ,dU,dV,dT,dS,eK,eL,dY,dZ,dX,dW,eM,eN,c6,c7,dE,dr,dC,dz,dw,d8,d9,dc,dp,a8,bq,aQ,bX,cc,aW,bj,cG,dn,eO,eh,cX,eo,dh,ew,ez,ef,e2,ik,az]
  by_cases h2:r.den.v=0
  .rw[ai ((s8 _).2 h2),ai (.inr h2)]
  .rw[ag (fun h=>h2 ((s8 _).1 h)),ag (fun h=>h.elim h1 h2)];cases hn:r.neg<;>rfl
end Go.Ab
namespace Go.Ab
noncomputable section
variable (a0 a1 a2:AV) (m:af)
open Go.Proofs.Tryz
theorem UU:AC aa 21 [a0,a1] m=(cQ none (some 3) m a0).bind fun r1=>(cQ none (some 3) r1.2 a1).bind fun r2=>(am (some 3) r2.2 r1.1).bind fun v3=>(am (some 3) r2.2 r2.1).bind fun v4=>(aF (AP aa) none r2.2 73 [v3,v4]).bind fun r5=>(ae .o .eql r5.1 (.I 0)).bind fun v6=>some (v6,r5.2):=
(aZ aa 21 [a0,a1] m (fn:=f21) (c:=aA f21) Yq rfl).trans aj
theorem Vf:AC aa 73 [a0,a1] m=(cQ none (some 3) m a0).bind fun r1=>(cQ none (some 3) r1.2 a1).bind fun r2=>(am (some 3) r2.2 r1.1).bind fun v3=>(am (some 3) r2.2 r2.1).bind fun v4=>(aF (AP aa) none r2.2 134 [v3,v4]).bind fun r5=>(aF (AP aa) none r5.2 57 [r5.1]).bind fun r6=>some (r6.1,r6.2):=
(aZ aa 73 [a0,a1] m (fn:=f73) (c:=aA f73) YV rfl).trans aj
theorem UP:AC aa 20 [] m=(aF (AP aa) none (aC none m (.B [(.bool false),aw,aw])).2 72 [(.U 1)]).bind fun r1=>(e9 (.agg [(.bool false),aw,aw]) [(2,none,r1.1)]).bind fun v2=>(aM (some 3) r1.2 (.ptr (aC none m .resv).1 0) v2).bind fun m3=>(am (some 3) m3 (.ptr (aC none m .resv).1 0)).bind fun v4=>some (v4,m3):=
(aZ aa 20 [] m (fn:=f20) (c:=aA f20) Yl rfl).trans aj
theorem CB:AC aa 22 [a0,a1] m=(cQ none (some 3) m a0).bind fun r1=>(cQ none (some 3) r1.2 a1).bind fun r2=>(am (some 3) (aC none r2.2 (.B [(.bool false),aw,aw])).2 r1.1).bind fun v3=>(aF (AP aa) (some (aC none r2.2 (.B [(.bool false),aw,aw])).2.length) (aC none r2.2 (.B [(.bool false),aw,aw])).2 74 [v3]).bind fun r4=>(am (some 3) r4.2 r2.1).bind fun v5=>(aF (AP aa) (some (aC none r2.2 (.B [(.bool false),aw,aw])).2.length) r4.2 74 [v5]).bind fun r6=>(aM (some 3) r6.2 r1.1 r4.1).bind fun m7=>(aM (some 3) m7 r2.1 r6.1).bind fun m8=>(aR 1 r1.1).bind fun v9=>(am none m8 v9).bind fun v10=>(aR 2 r2.1).bind fun v11=>(am none m8 v11).bind fun v12=>(aF (AP aa) (some m8.length) m8 75 [v10,v12]).bind fun r13=>(aR 1 r2.1).bind fun v14=>(am none r13.2 v14).bind fun v15=>(aR 2 r1.1).bind fun v16=>(am none r13.2 v16).bind fun v17=>(aF (AP aa) (some m8.length) r13.2 75 [v15,v17]).bind fun r18=>(aR 2 r1.1).bind fun v19=>(am none r18.2 v19).bind fun v20=>(aR 2 r2.1).bind fun v21=>(am none r18.2 v21).bind fun v22=>(aF (AP aa) (some m8.length) r18.2 75 [v20,v22]).bind fun r23=>(aR 0 r1.1).bind fun v24=>(am none r23.2 v24).bind fun v25=>(aF (AP aa) (some r23.2.length) r23.2 76 [r13.1,r18.1]).bind fun r26=>(aR 0 r1.1).bind fun v27=>(am none r26.2 v27).bind fun v28=>(aR 0 r2.1).bind fun v29=>(am none r26.2 v29).bind fun v30=>(ae .bl .neq v28 v30).bind fun v31=>au v31 ((aF (AP aa) none r26.2 77 [r13.1,r18.1]).bind fun r32=>(ae .o .geq r32.1 (.I 0)).bind fun v33=>au v33 ((aF (AP aa) none r32.2 78 [r13.1,r18.1]).bind fun r34=>(aT r34.1 0).bind fun v35=>(aT r34.1 1).bind fun v36=>(aF (AP aa) none r34.2 79 [v25,v35,r23.1]).bind fun r37=>(aT r37.1 0).bind fun v38=>(aT r37.1 1).bind fun v39=>(aM (some 3) (aC none r37.2 (.B [(.bool false),aw,aw])).2 (.ptr (aC none r37.2 .resv).1 0) v38).bind fun m40=>(am (some 3) m40 (.ptr (aC none r37.2 .resv).1 0)).bind fun v41=>(aM (some 3) m40 (.ptr (aC none r2.2 .resv).1 0) v41).bind fun m42=>(am (some 3) m42 (.ptr (aC none r2.2 .resv).1 0)).bind fun v43=>some (v43,m42)) ((aR 0 r2.1).bind fun v44=>(am none r32.2 v44).bind fun v45=>(aF (AP aa) none r32.2 78 [r18.1,r13.1]).bind fun r46=>(aT r46.1 0).bind fun v47=>(aT r46.1 1).bind fun v48=>(aF (AP aa) none r46.2 79 [v45,v47,r23.1]).bind fun r49=>(aT r49.1 0).bind fun v50=>(aT r49.1 1).bind fun v51=>(aM (some 3) (aC none r49.2 (.B [(.bool false),aw,aw])).2 (.ptr (aC none r49.2 .resv).1 0) v50).bind fun m52=>(am (some 3) m52 (.ptr (aC none r49.2 .resv).1 0)).bind fun v53=>(aM (some 3) m52 (.ptr (aC none r2.2 .resv).1 0) v53).bind fun m54=>(am (some 3) m54 (.ptr (aC none r2.2 .resv).1 0)).bind fun v55=>some (v55,m54))) ((aF (AP aa) none r26.2 79 [v25,r26.1,r23.1]).bind fun r56=>(aT r56.1 0).bind fun v57=>(aT r56.1 1).bind fun v58=>(aM (some 3) (aC none r56.2 (.B [(.bool false),aw,aw])).2 (.ptr (aC none r56.2 .resv).1 0) v57).bind fun m59=>(am (some 3) m59 (.ptr (aC none r56.2 .resv).1 0)).bind fun v60=>(aM (some 3) m59 (.ptr (aC none r2.2 .resv).1 0) v60).bind fun m61=>(am (some 3) m61 (.ptr (aC none r2.2 .resv).1 0)).bind fun v62=>some (v62,m61)):=
(aZ aa 22 [a0,a1] m (fn:=f22) (c:=aA f22) Yr rfl).trans aj
theorem U5:AC aa 57 [a0] m=(cQ none (some 3) m a0).bind fun r1=>(am (some 3) r1.2 r1.1).bind fun v2=>(aF (AP aa) none r1.2 74 [v2]).bind fun r3=>(aM (some 3) r3.2 r1.1 r3.1).bind fun m4=>(aR 1 r1.1).bind fun v5=>(am none m4 v5).bind fun v6=>(aL false v6).bind fun v7=>(ae .o .eql v7 (.I 0)).bind fun v8=>au v8 (some ((.I 0),m4)) ((aR 0 r1.1).bind fun v9=>(am none m4 v9).bind fun v10=>au v10 (some ((.I (-1)),m4)) (some ((.I 1),m4))):=
(aZ aa 57 [a0] m (fn:=f57) (c:=aA f57) YJ rfl).trans aj
theorem Uq:AC aa 134 [a0,a1] m=(cQ none (some 3) m a0).bind fun r1=>(cQ none (some 3) r1.2 a1).bind fun r2=>(am (some 3) (aC none r2.2 (.B [(.bool false),aw,aw])).2 r1.1).bind fun v3=>(am (some 3) (aC none r2.2 (.B [(.bool false),aw,aw])).2 r2.1).bind fun v4=>(aF (AP aa) (some (aC none r2.2 (.B [(.bool false),aw,aw])).2.length) (aC none r2.2 (.B [(.bool false),aw,aw])).2 169 [v4]).bind fun r5=>(aF (AP aa) (some (aC none r2.2 (.B [(.bool false),aw,aw])).2.length) r5.2 22 [v3,r5.1]).bind fun r6=>(aM (some 3) r6.2 (.ptr (aC none r2.2 .resv).1 0) r6.1).bind fun m7=>(am (some 3) m7 (.ptr (aC none r2.2 .resv).1 0)).bind fun v8=>some (v8,m7):=
(aZ aa 134 [a0,a1] m (fn:=f134) (c:=aA f134) XK rfl).trans aj
theorem Id:AC aa 74 [a0] m=(cQ none (some 3) m a0).bind fun r1=>(aR 0 r1.1).bind fun v2=>(am none (aC none r1.2 (.B [(.bool false),aw,aw])).2 v2).bind fun v3=>(aR 1 r1.1).bind fun v4=>(am none (aC none r1.2 (.B [(.bool false),aw,aw])).2 v4).bind fun v5=>(aR 2 r1.1).bind fun v6=>(am none (aC none r1.2 (.B [(.bool false),aw,aw])).2 v6).bind fun v7=>(aF (AP aa) none (aC none r1.2 (.B [(.bool false),aw,aw])).2 79 [v3,v5,v7]).bind fun r8=>(aT r8.1 0).bind fun v9=>(aT r8.1 1).bind fun v10=>(aM (some 3) (aC none r8.2 (.B [(.bool false),aw,aw])).2 (.ptr (aC none r8.2 .resv).1 0) v9).bind fun m11=>(ae .o .neq v10 (.I 0)).bind fun v12=>au v12 ((aF (AP aa) none m11 20 []).bind fun r13=>(aM (some 3) r13.2 (.ptr (aC none r1.2 .resv).1 0) r13.1).bind fun m14=>(am (some 3) m14 (.ptr (aC none r1.2 .resv).1 0)).bind fun v15=>some (v15,m14)) ((am (some 3) m11 (.ptr (aC none r8.2 .resv).1 0)).bind fun v16=>(aM (some 3) m11 (.ptr (aC none r1.2 .resv).1 0) v16).bind fun m17=>(am (some 3) m17 (.ptr (aC none r1.2 .resv).1 0)).bind fun v18=>some (v18,m17)):=
(aZ aa 74 [a0] m (fn:=f74) (c:=aA f74) YW rfl).trans aj
theorem If:AC aa 79 [a0,a1,a2] m=(aF (AP aa) none (aC none m (.B [(.bool false),aw,aw])).2 136 [a2]).bind fun r1=>(ae .o .eql r1.1 (.I 0)).bind fun v2=>au v2 ((e9 (.agg [(.bool false),aw,aw]) []).bind fun v3=>(aM (some 3) r1.2 (.ptr (aC none m .resv).1 0) v3).bind fun m4=>(am (some 3) m4 (.ptr (aC none m .resv).1 0)).bind fun v5=>some ((.tup [v5,(.I 31)]),m4)) ((aF (AP aa) none r1.2 119 [a1,a2]).bind fun r6=>(aF (AP aa) none r6.2 137 [a1,r6.1]).bind fun r7=>(aT r7.1 0).bind fun v8=>(aT r7.1 1).bind fun v9=>(aT r7.1 2).bind fun v10=>(aF (AP aa) none r7.2 137 [a2,r6.1]).bind fun r11=>(aT r11.1 0).bind fun v12=>(aT r11.1 1).bind fun v13=>(aT r11.1 2).bind fun v14=>au a0 ((aL false v8).bind fun v15=>(ae .o .gtr v15 (.I 0)).bind fun v16=>(e9 (.agg [(.bool false),aw,aw]) [(0,none,v16),(1,none,v8),(2,none,v12)]).bind fun v17=>(aM (some 3) r11.2 (.ptr (aC none m .resv).1 0) v17).bind fun m18=>(am (some 3) m18 (.ptr (aC none m .resv).1 0)).bind fun v19=>some ((.tup [v19,(.I 0)]),m18)) ((e9 (.agg [(.bool false),aw,aw]) [(0,none,(.bool false)),(1,none,v8),(2,none,v12)]).bind fun v20=>(aM (some 3) r11.2 (.ptr (aC none m .resv).1 0) v20).bind fun m21=>(am (some 3) m21 (.ptr (aC none m .resv).1 0)).bind fun v22=>some ((.tup [v22,(.I 0)]),m21))):=
(aZ aa 79 [a0,a1,a2] m (fn:=f79) (c:=aA f79) Y3 rfl).trans aj
theorem H7:AC aa 169 [a0] m=(cQ none (some 3) m a0).bind fun r1=>(am (some 3) (aC none r1.2 (.B [(.bool false),aw,aw])).2 r1.1).bind fun v2=>(aF (AP aa) none (aC none r1.2 (.B [(.bool false),aw,aw])).2 74 [v2]).bind fun r3=>(aM (some 3) r3.2 r1.1 r3.1).bind fun m4=>(aR 0 r1.1).bind fun v5=>(am none m4 v5).bind fun v6=>(il .not v6).bind fun v7=>au v7 ((aR 1 r1.1).bind fun v8=>(am none m4 v8).bind fun v9=>(aL false v9).bind fun v10=>(ae .o .gtr v10 (.I 0)).bind fun v11=>(aR 0 r1.1).bind fun v12=>(aM none m4 v12 v11).bind fun m13=>(am (some 3) m13 r1.1).bind fun v14=>(aM (some 3) m13 (.ptr (aC none r1.2 .resv).1 0) v14).bind fun m15=>(am (some 3) m15 (.ptr (aC none r1.2 .resv).1 0)).bind fun v16=>some (v16,m15)) ((aR 0 r1.1).bind fun v17=>(aM none m4 v17 (.bool false)).bind fun m18=>(am (some 3) m18 r1.1).bind fun v19=>(aM (some 3) m18 (.ptr (aC none r1.2 .resv).1 0) v19).bind fun m20=>(am (some 3) m20 (.ptr (aC none r1.2 .resv).1 0)).bind fun v21=>some (v21,m20)):=
(aZ aa 169 [a0] m (fn:=f169) (c:=aA f169) Ya rfl).trans aj
end
end Go.Ab
namespace Go.Ab
open Go.Proofs.Tryz
theorem V6:AP aa 72 [.U 1]=some (bz 1).av:=yN (n:=1) Z
def oE:RV:=⟨false,gy,bz 1⟩
theorem EE(n:Nat):(bz n).z=true->(bz n).ds=[]:=by
 intro h;unfold bz mI at h ⊢
 split at h
 .split<;>first|rfl|(rename_i h1 h2;exact absurd h1 h2)
 .cases h
theorem ZG:Can oE 0:=⟨rfl,jg.symm,iM 1,fun _=>rfl,EE 1⟩
theorem Fi:oE.fr=oE:=by simp only[oE,RV.fr,iC];rfl
theorem VO:AP aa 20 []=some oE.av:=by
 refine (cK _ _ (gQ oE) (jv _) (m:=[cR oE]) ?_).trans (by rw[Fi]);rw[UP];simp only[Nat.reduceAdd,O,aP,dD,d5,cZ,d6,d4,dF,dG,dH,eD,eE,dJ,dK,dI,cY,c8,eG,dM,dN,dL,df,dj,eH,dQ,dR,dP,dO,eI,eJ,dU,dV,dT,dS,eK,eL,dY,dZ,dX,dW,eM,eN,c6,c7,dE,dr,dC,dz,dw,d8,d9,dc,dp,a8,bq,aQ,bX,cc,aW,bj,cG,dn,eO,eh,cX,eo,dh,ew,ez,ef,V6]
 rfl
theorem JP(k:Nat):ae .o .eql (.I k) (.I 0)=some (.bool (decide (k=0))):=kH
theorem Iy{x y:NV}(neg:Bool)(hx:NOk x)(hy:NOk y)(lx:(aB x.v).length<2^38)(ly:(aB y.v).length<2^38):(y.v=0/\AP aa 79 [.bool neg,x.av,y.av]=some (.tup [zR.av,.I 31])) \/
  (y.v≠0/\∃r:RV,AP aa 79 [.bool neg,x.av,y.av]=some (.tup [r.av,.I 0])/\Can r (cL neg x.v y.v)/\r.fr=r):=by
 obtain ⟨kb,e0,e0'⟩:=VI hy.fr;have e1:=VC hx.fr hy.fr lx ly;have v1:x.fr.v=x.v:=rfl;have v2:y.fr.v=y.v:=rfl;rw[v1,v2] at e1;rw[v2] at e0'
 have lg:(aB (Nat.gcd x.v y.v)).length<2^38:=by
  by_cases h0:x.v=0
  .rw[h0,Nat.gcd_zero_left];exact ly
  .exact im (iQ (Nat.gcd_le_left _ (kD h0))) lx
 have hg:NOk (bz (Nat.gcd x.v y.v)):=fP Z;have e3:=Im hx.fr hg (by rw[v1];omega) (by rw[fh];omega);have e4:=Im hy.fr hg (by rw[v2];omega) (by rw[fh];omega)
 by_cases h0:y.v=0
 .refine .inl ⟨h0,cK _ _ (vA zR (iR _ _)) rfl (m:=[cR zR]) ?_⟩;rw[If];simp only[Nat.reduceAdd,O,aP,dD,d5,cZ,d6,d4,dF,dG,dH,eD,eE,dJ,dK,dI,cY,c8,eG,dM,dN,dL,df,dj,eH,dQ,dR,dP,dO,eI,eJ,dU,dV,dT,dS,eK,eL,dY,dZ,dX,dW,eM,eN,c6,c7,dE,dr,dC,dz,dw,d8,d9,dc,dp,a8,bq,aQ,bX,cc,aW,bj,cG,dn,eO,eh,cX,eo,dh,ew,ez,ef,e0,JP,az];rw[ai (e0'.2 h0)]
 .refine .inr ⟨h0,?_⟩
  have hgp:Nat.gcd x.v y.v≠0:=by
   have:=Nat.gcd_pos_of_pos_right x.v (kD h0);omega
  unfold C6 at e3 e4;rw[fh,ag hgp,v1] at e3;rw[fh,ag hgp,v2] at e4
  refine ⟨⟨neg&&decide (x.v/Nat.gcd x.v y.v>0),bz (x.v/Nat.gcd x.v y.v),bz (y.v/Nat.gcd x.v y.v)⟩,?_,⟨(L9 h0).symm,?_,?_,EE _,EE _⟩,?_⟩
  .refine (cK _ _ (vA ⟨neg&&decide (x.v/Nat.gcd x.v y.v>0),bz (x.v/Nat.gcd x.v y.v),bz (y.v/Nat.gcd x.v y.v)⟩ (iR .i64 0)) rfl (m:=[cR ⟨neg&&decide (x.v/Nat.gcd x.v y.v>0),bz (x.v/Nat.gcd x.v y.v),bz (y.v/Nat.gcd x.v y.v)⟩]) ?_).trans (by simp only[RV.fr,iC]);rw[If];simp only[Nat.reduceAdd,O,aP,dD,d5,cZ,d6,d4,dF,dG,dH,eD,eE,dJ,dK,dI,cY,c8,eG,dM,dN,dL,df,dj,eH,dQ,dR,dP,dO,eI,eJ,dU,dV,dT,dS,eK,eL,dY,dZ,dX,dW,eM,eN,c6,c7,dE,dr,dC,dz,dw,d8,d9,dc,dp,a8,bq,aQ,bX,cc,aW,bj,cG,dn,eO,eh,cX,eo,dh,ew,ez,ef,e0,JP,az];rw[ag (fun h=>h0 (e0'.1 h))];simp only[Nat.reduceAdd,O,aP,dD,d5,cZ,d6,d4,dF,dG,dH,eD,eE,dJ,dK,dI,cY,c8,eG,dM,dN,dL,df,dj,eH,dQ,dR,dP,dO,eI,eJ,dU,dV,dT,dS,eK,eL,dY,dZ,dX,dW,eM,eN,c6,c7,dE,dr,dC,dz,dw,d8,d9,dc,dp,a8,bq,aQ,bX,cc,aW,bj,cG,dn,eO,eh,cX,eo,dh,ew,ez,ef,e1,iC,e3,e4,kJ,pA]
   have hlen:decide ((aB (x.v/Nat.gcd x.v y.v)).length>0)=decide (x.v/Nat.gcd x.v y.v>0):=iz.2 (by
    constructor
    .intro h;apply kD;intro e;rw[e,jg] at h;simp at h
    .intro h;have:(aB (x.v/Nat.gcd x.v y.v)).length≠0:=fun e=>by have:=jT.1 e;omega
     omega)
   cases neg with
   | false=>rfl
   | true=>
    rw[pu,hlen];simp only[Nat.reduceAdd,O,aP,dD,d5,cZ,d6,d4,dF,dG,dH,eD,eE,dJ,dK,dI,cY,c8,eG,dM,dN,dL,df,dj,eH,dQ,dR,dP,dO,eI,eJ,dU,dV,dT,dS,eK,eL,dY,dZ,dX,dW,eM,eN,c6,c7,dE,dr,dC,dz,dw,d8,d9,dc,dp,a8,bq,aQ,bX,cc,aW,bj,cG,dn,eO,eh,cX,eo,dh,ew,ez,ef,jc]
  .rw[EA h0];exact iM _
  .rw[EB h0];exact iM _
  .simp only[RV.fr,iC]
theorem yO{r:RV}{k:Nat}(h:ROk k r)(hk:k<2^38):∃s:RV,AP aa 74 [r.av]=some s.av/\Can s r.q/\s.fr=s:=by
 have ln:=eP h.num.v_len h.ln;have ld:=eP h.den.v_len h.ld
 rcases Iy r.neg h.num.fr h.den.fr (by show (aB r.num.v).length<_;omega) (by show (aB r.den.v).length<_;omega) with ⟨h0,h1⟩|⟨h0,s,h1,h2,h3⟩
 .refine ⟨oE,(cK _ _ (gQ oE) (jv _) (m:=[cR r,cR oE,cR zR]) ?_).trans (by rw[Fi]),?_,Fi⟩
  .rw[Id];simp only[Nat.reduceAdd,O,aP,dD,d5,cZ,d6,d4,dF,dG,dH,eD,eE,dJ,dK,dI,cY,c8,eG,dM,dN,dL,df,dj,eH,dQ,dR,dP,dO,eI,eJ,dU,dV,dT,dS,eK,eL,dY,dZ,dX,dW,eM,eN,c6,c7,dE,dr,dC,dz,dw,d8,d9,dc,dp,a8,bq,aQ,bX,cc,aW,bj,cG,dn,eO,eh,cX,eo,dh,ew,ez,ef,h1,gt,az];rw[ai (by decide)];simp only[Nat.reduceAdd,O,aP,dD,d5,cZ,d6,d4,dF,dG,dH,eD,eE,dJ,dK,dI,cY,c8,eG,dM,dN,dL,df,dj,eH,dQ,dR,dP,dO,eI,eJ,dU,dV,dT,dS,eK,eL,dY,dZ,dX,dW,eM,eN,c6,c7,dE,dr,dC,dz,dw,d8,d9,dc,dp,a8,bq,aQ,bX,cc,aW,bj,cG,dn,eO,eh,cX,eo,dh,ew,ez,ef,VO]
  .have:r.den.v=0:=h0;rw[RV.q,this,wa];exact ZG
 .refine ⟨s,(cK _ _ (gQ s) (jv _) (m:=[cR r,cR s,cR s]) ?_).trans (by rw[h3]),h2,h3⟩;rw[Id];simp only[Nat.reduceAdd,O,aP,dD,d5,cZ,d6,d4,dF,dG,dH,eD,eE,dJ,dK,dI,cY,c8,eG,dM,dN,dL,df,dj,eH,dQ,dR,dP,dO,eI,eJ,dU,dV,dT,dS,eK,eL,dY,dZ,dX,dW,eM,eN,c6,c7,dE,dr,dC,dz,dw,d8,d9,dc,dp,a8,bq,aQ,bX,cc,aW,bj,cG,dn,eO,eh,cX,eo,dh,ew,ez,ef,h1,gt,az];rw[ag (by decide)]
end Go.Ab
namespace Go.Ab
open Go.Proofs.Tryz
def wd(q:Rat):Int:=if q=0 then 0 else if q.num<0 then -1 else 1
theorem qc9(q:Rat):wd q=0↔q=0:=by
 unfold wd
 constructor
 .intro h
  split at h
  .assumption
  .split at h<;>omega
 .intro h;rw[ai h]
theorem Can.len0{r:RV}{q:Rat}(h:Can r q):r.num.ds.length=0↔q=0:=by
 rw[h.num,jT,Int.natAbs_eq_zero,Rat.num_eq_zero]
theorem V2{r:RV}{k:Nat}(h:ROk k r)(hk:k<2^38):AP aa 57 [r.av]=some (.I (wd r.q)):=by
 obtain ⟨s,e1,e2,e3⟩:=yO h.fr hk;rw[RV.fr_q] at e2;refine cK _ _ (ft _ _) rfl (m:=[cR s]) ?_;rw[U5];simp only[Nat.reduceAdd,O,aP,dD,d5,cZ,d6,d4,dF,dG,dH,eD,eE,dJ,dK,dI,cY,c8,eG,dM,dN,dL,df,dj,eH,dQ,dR,dP,dO,eI,eJ,dU,dV,dT,dS,eK,eL,dY,dZ,dX,dW,eM,eN,c6,c7,dE,dr,dC,dz,dw,d8,d9,dc,dp,a8,bq,aQ,bX,cc,aW,bj,cG,dn,eO,eh,cX,eo,dh,ew,ez,ef,e1,fT,kH,az];unfold wd
 by_cases h0:r.q=0
 .rw[ai (e2.len0.2 h0),ai h0]
 .rw[ag (fun hh=>h0 (e2.len0.1 hh)),ag h0,e2.neg,az];split<;>rfl
theorem VK{r:RV}{k:Nat}(h:ROk k r)(hk:k<2^38):∃s:RV,AP aa 169 [r.av]=some s.av/\Can s (-r.q)/\s.fr=s:=by
 obtain ⟨s,e1,e2,e3⟩:=yO h.fr hk;rw[RV.fr_q] at e2
 have hlen:∀b:Bool,decide (s.num.ds.length>0)=decide (r.q≠0):=by
  intro b;refine iz.2 ?_;have:=e2.len0
  constructor
  .intro h1 h2;have:=this.2 h2;omega
  .intro h1;have:s.num.ds.length≠0:=fun e=>h1 (this.1 e);omega
 have hs1:s.num.fr=s.num:=cA RV.num e3;have hs2:s.den.fr=s.den:=cA RV.den e3
 have hc:∀b:Bool,b=decide ((-r.q).num<0)->Can ⟨b,s.num,s.den⟩ (-r.q):=by
  intro b hb
  refine ⟨hb,?_,?_,e2.numz,e2.denz⟩
  .rw[Rat.neg_num,Int.natAbs_neg];exact e2.num
  .rw[Rat.neg_den];exact e2.den
 cases hn:s.neg with
 | true=>
  have hq:r.q.num<0:=by have:=e2.neg;rw[hn] at this;exact rO this.symm
  refine ⟨⟨false,s.num,s.den⟩,(cK _ _ (gQ ⟨false,s.num,s.den⟩) (jv _) (m:=[cR ⟨false,s.num,s.den⟩,cR ⟨false,s.num,s.den⟩]) ?_).trans (by simp only[RV.fr,hs1,hs2]),hc false ?_,by simp only[RV.fr,hs1,hs2]⟩
  .rw[H7];simp only[Nat.reduceAdd,O,aP,dD,d5,cZ,d6,d4,dF,dG,dH,eD,eE,dJ,dK,dI,cY,c8,eG,dM,dN,dL,df,dj,eH,dQ,dR,dP,dO,eI,eJ,dU,dV,dT,dS,eK,eL,dY,dZ,dX,dW,eM,eN,c6,c7,dE,dr,dC,dz,dw,d8,d9,dc,dp,a8,bq,aQ,bX,cc,aW,bj,cG,dn,eO,eh,cX,eo,dh,ew,ez,ef,e1,hn,hZ,rA]
  .rw[Rat.neg_num];exact (eX (by omega)).symm
 | false=>
  have hq:¬ r.q.num<0:=by have:=e2.neg;rw[hn] at this;exact of_decide_eq_false this.symm
  refine ⟨⟨decide (r.q≠0),s.num,s.den⟩,(cK _ _ (gQ ⟨decide (r.q≠0),s.num,s.den⟩) (jv _) (m:=[cR ⟨decide (r.q≠0),s.num,s.den⟩,cR ⟨decide (r.q≠0),s.num,s.den⟩]) ?_).trans (by simp only[RV.fr,hs1,hs2]),hc _ ?_,by simp only[RV.fr,hs1,hs2]⟩
  .rw[H7];simp only[Nat.reduceAdd,O,aP,dD,d5,cZ,d6,d4,dF,dG,dH,eD,eE,dJ,dK,dI,cY,c8,eG,dM,dN,dL,df,dj,eH,dQ,dR,dP,dO,eI,eJ,dU,dV,dT,dS,eK,eL,dY,dZ,dX,dW,eM,eN,c6,c7,dE,dr,dC,dz,dw,d8,d9,dc,dp,a8,bq,aQ,bX,cc,aW,bj,cG,dn,eO,eh,cX,eo,dh,ew,ez,ef,e1,hn,ka,pu,fT,pA,hlen true]
  .rw[Rat.neg_num];refine iz.2 ?_;have h0:r.q=0↔r.q.num=0:=Rat.num_eq_zero.symm
   constructor
   .intro h1;have:r.q.num≠0:=fun e=>h1 (h0.2 e);omega
   .intro h1 h2;have:=h0.1 h2;omega
theorem VS{a b:RV}{k:Nat}(ha:ROk k a)(hb:ROk k b)(hk1:1<=k)(hk:k<2^36):∃s:RV,AP aa 22 [a.av,b.av]=some s.av/\Can s (a.q+b.q)/\s.fr=s:=by
 obtain ⟨s,e1,e2,e3⟩:=yO ha.fr Z;obtain ⟨t,f1,f2,f3⟩:=yO hb.fr Z;rw[RV.fr_q] at e2 f2;have os:=e2.ok (ha.bd hk1) Z;have ot:=f2.ok (hb.bd hk1) Z;have hs1:s.num.fr=s.num:=cA RV.num e3;have hs2:s.den.fr=s.den:=cA RV.den e3;have ht1:t.num.fr=t.num:=cA RV.num f3;have ht2:t.den.fr=t.den:=cA RV.den f3;have lx:=nK (eP os.num.v_len os.ln) (eP ot.den.v_len ot.ld);have ly:=nK (eP ot.num.v_len ot.ln) (eP os.den.v_len os.ld);have ld:=nK (eP os.den.v_len os.ld) (eP ot.den.v_len ot.ld);have lxy:=DO lx ly;have g1:=yP os.num ot.den;have g2:=yP ot.num os.den;have g3:=yP os.den ot.den;have ox:NOk (bz (s.num.v*t.den.v)):=fP Z;have oy:NOk (bz (t.num.v*s.den.v)):=fP Z;have od:NOk (bz (s.den.v*t.den.v)):=fP Z;have g4:=Ix ox oy (iC _) (iC _);have g5:=uU ox oy;have g6:=uV ox oy (iC _) (iC _);have g7:=uV oy ox (iC _) (iC _);rw[fh,fh] at g4 g5;unfold tJ at g6 g7;rw[fh,fh] at g6 g7;have hd0:s.den.v*t.den.v≠0:=Nat.mul_ne_zero e2.den0 f2.den0
 have hsum:a.q+b.q=mkRat (eR s.neg (s.num.v*t.den.v)+eR t.neg (t.num.v*s.den.v)) (s.den.v*t.den.v):=by
  rw[<- e2.q,<- f2.q];exact Ai e2.den0 f2.den0
 have fin:∀(neg:Bool) (n:Nat),(aB n).length<2^38->mkRat (eR s.neg (s.num.v*t.den.v)+eR t.neg (t.num.v*s.den.v)) (s.den.v*t.den.v)=cL neg n (s.den.v*t.den.v)->∃r:RV,AP aa 79 [.bool neg,(bz n).av,(bz (s.den.v*t.den.v)).av]=some (.tup [r.av,.I 0])/\Can r (a.q+b.q)/\r.fr=r:=by
  intro neg n hn he
  rcases Iy neg (fP (n:=n) Z) od (by rw[fh];exact hn) (by rw[fh];omega) with ⟨h0,_⟩|⟨_,r,h1,h2,h3⟩
  .rw[fh] at h0;exact absurd h0 hd0
  .rw[fh,fh,<- he,<- hsum] at h2;exact ⟨r,h1,h2,h3⟩
 by_cases hn:s.neg=t.neg
 .obtain ⟨r,h1,h2,h3⟩:=fin s.neg (s.num.v*t.den.v+t.num.v*s.den.v) Z (by rw[<- hn,MA];rfl);refine ⟨r,(cK _ _ (gQ r) (jv _) (m:=[cR s,cR t,cR r,cR r]) ?_).trans (by rw[h3]),h2,h3⟩;rw[CB];simp only[Nat.reduceAdd,O,aP,dD,d5,cZ,d6,d4,dF,dG,dH,eD,eE,dJ,dK,dI,cY,c8,eG,dM,dN,dL,df,dj,eH,dQ,dR,dP,dO,eI,eJ,dU,dV,dT,dS,eK,eL,dY,dZ,dX,dW,eM,eN,c6,c7,dE,dr,dC,dz,dw,d8,d9,dc,dp,a8,bq,aQ,bX,cc,aW,bj,cG,dn,eO,eh,cX,eo,dh,ew,ez,ef,e1,f1,hs1,hs2,ht1,ht2,g1,g2,g3,iC,g4,hn,bne_self_eq_false,rA];rw[hn] at h1;simp only[Nat.reduceAdd,O,aP,dD,d5,cZ,d6,d4,dF,dG,dH,eD,eE,dJ,dK,dI,cY,c8,eG,dM,dN,dL,df,dj,eH,dQ,dR,dP,dO,eI,eJ,dU,dV,dT,dS,eK,eL,dY,dZ,dX,dW,eM,eN,c6,c7,dE,dr,dC,dz,dw,d8,d9,dc,dp,a8,bq,aQ,bX,cc,aW,bj,cG,dn,eO,eh,cX,eo,dh,ew,ez,ef,h1]
 .have hne:(s.neg != t.neg)=true:=by simpa using hn
  by_cases hlt:s.num.v*t.den.v<t.num.v*s.den.v
  .obtain ⟨r,h1,h2,h3⟩:=fin t.neg (t.num.v*s.den.v-s.num.v*t.den.v) (im (iQ (Nat.sub_le _ _)) Z) (by rw[Mz hn hlt];rfl);refine ⟨r,(cK _ _ (gQ r) (jv _) (m:=[cR s,cR t,cR r,cR r]) ?_).trans (by rw[h3]),h2,h3⟩;have hc:¬ fS (s.num.v*t.den.v) (t.num.v*s.den.v)≥0:=by unfold fS;rw[ai hlt];omega
   rw[ag Z] at g7;rw[CB];simp only[Nat.reduceAdd,O,aP,dD,d5,cZ,d6,d4,dF,dG,dH,eD,eE,dJ,dK,dI,cY,c8,eG,dM,dN,dL,df,dj,eH,dQ,dR,dP,dO,eI,eJ,dU,dV,dT,dS,eK,eL,dY,dZ,dX,dW,eM,eN,c6,c7,dE,dr,dC,dz,dw,d8,d9,dc,dp,a8,bq,aQ,bX,cc,aW,bj,cG,dn,eO,eh,cX,eo,dh,ew,ez,ef,e1,f1,hs1,hs2,ht1,ht2,g1,g2,g3,iC,g4,hne,pu,g5,je,az];rw[ag hc];simp only[Nat.reduceAdd,O,aP,dD,d5,cZ,d6,d4,dF,dG,dH,eD,eE,dJ,dK,dI,cY,c8,eG,dM,dN,dL,df,dj,eH,dQ,dR,dP,dO,eI,eJ,dU,dV,dT,dS,eK,eL,dY,dZ,dX,dW,eM,eN,c6,c7,dE,dr,dC,dz,dw,d8,d9,dc,dp,a8,bq,aQ,bX,cc,aW,bj,cG,dn,eO,eh,cX,eo,dh,ew,ez,ef,iC,g7,h1]
  .obtain ⟨r,h1,h2,h3⟩:=fin s.neg (s.num.v*t.den.v-t.num.v*s.den.v) (im (iQ (Nat.sub_le _ _)) Z) (by rw[My hn hlt];rfl);refine ⟨r,(cK _ _ (gQ r) (jv _) (m:=[cR s,cR t,cR r,cR r]) ?_).trans (by rw[h3]),h2,h3⟩;have hc:fS (s.num.v*t.den.v) (t.num.v*s.den.v)≥0:=by unfold fS;rw[ag hlt];split<;>omega
   rw[ag hlt] at g6;rw[CB];simp only[Nat.reduceAdd,O,aP,dD,d5,cZ,d6,d4,dF,dG,dH,eD,eE,dJ,dK,dI,cY,c8,eG,dM,dN,dL,df,dj,eH,dQ,dR,dP,dO,eI,eJ,dU,dV,dT,dS,eK,eL,dY,dZ,dX,dW,eM,eN,c6,c7,dE,dr,dC,dz,dw,d8,d9,dc,dp,a8,bq,aQ,bX,cc,aW,bj,cG,dn,eO,eh,cX,eo,dh,ew,ez,ef,e1,f1,hs1,hs2,ht1,ht2,g1,g2,g3,iC,g4,hne,pu,g5,je,az];rw[ai hc];simp only[Nat.reduceAdd,O,aP,dD,d5,cZ,d6,d4,dF,dG,dH,eD,eE,dJ,dK,dI,cY,c8,eG,dM,dN,dL,df,dj,eH,dQ,dR,dP,dO,eI,eJ,dU,dV,dT,dS,eK,eL,dY,dZ,dX,dW,eM,eN,c6,c7,dE,dr,dC,dz,dw,d8,d9,dc,dp,a8,bq,aQ,bX,cc,aW,bj,cG,dn,eO,eh,cX,eo,dh,ew,ez,ef,iC,g6,h1]
theorem VH{a b:RV}{k:Nat}(ha:ROk k a)(hb:ROk k b)(hk1:1<=k)(hk:k<2^36):∃s:RV,AP aa 134 [a.av,b.av]=some s.av/\Can s (a.q-b.q)/\s.fr=s:=by
 obtain ⟨t,f1,f2,f3⟩:=VK hb.fr Z;rw[RV.fr_q] at f2
 have bt:Bd k (-b.q):=by
  have:=hb.bd hk1
  refine ⟨?_,?_⟩
  .rw[Rat.neg_num,Int.natAbs_neg];exact this.1
  .rw[Rat.neg_den];exact this.2
 have ot:=f2.ok bt Z;obtain ⟨s,e1,e2,e3⟩:=VS ha.fr ot hk1 hk;rw[f2.q,RV.fr_q,<- Rat.sub_eq_add_neg] at e2;refine ⟨s,(cK _ _ (gQ s) (jv _) (m:=[cR a,cR b,cR s]) ?_).trans (by rw[e3]),e2,e3⟩;rw[Uq];simp only[Nat.reduceAdd,O,aP,dD,d5,cZ,d6,d4,dF,dG,dH,eD,eE,dJ,dK,dI,cY,c8,eG,dM,dN,dL,df,dj,eH,dQ,dR,dP,dO,eI,eJ,dU,dV,dT,dS,eK,eL,dY,dZ,dX,dW,eM,eN,c6,c7,dE,dr,dC,dz,dw,d8,d9,dc,dp,a8,bq,aQ,bX,cc,aW,bj,cG,dn,eO,eh,cX,eo,dh,ew,ez,ef,f1,f3,e1]
theorem V7{a b:RV}{k:Nat}(ha:ROk k a)(hb:ROk k b)(hk1:1<=k)(hk:k<2^36):AP aa 73 [a.av,b.av]=some (.I (wd (a.q-b.q))):=by
 obtain ⟨s,e1,e2,e3⟩:=VH ha.fr hb.fr hk1 hk;rw[RV.fr_q,RV.fr_q] at e2
 have bs:=NX (ha.bd hk1) (q:=-b.q) (l:=k) (by
  have:=hb.bd hk1
  refine ⟨?_,?_⟩
  .rw[Rat.neg_num,Int.natAbs_neg];exact this.1
  .rw[Rat.neg_den];exact this.2) hk1
 rw[<- Rat.sub_eq_add_neg] at bs;have os:=e2.ok bs Z;have e4:=V2 os Z;rw[e2.q] at e4;refine cK _ _ (ft _ _) rfl (m:=[cR a,cR b]) ?_;rw[Vf];simp only[Nat.reduceAdd,O,aP,dD,d5,cZ,d6,d4,dF,dG,dH,eD,eE,dJ,dK,dI,cY,c8,eG,dM,dN,dL,df,dj,eH,dQ,dR,dP,dO,eI,eJ,dU,dV,dT,dS,eK,eL,dY,dZ,dX,dW,eM,eN,c6,c7,dE,dr,dC,dz,dw,d8,d9,dc,dp,a8,bq,aQ,bX,cc,aW,bj,cG,dn,eO,eh,cX,eo,dh,ew,ez,ef,e1,e3,e4]
theorem VR{a b:RV}{k:Nat}(ha:ROk k a)(hb:ROk k b)(hk1:1<=k)(hk:k<2^36):AP aa 21 [a.av,b.av]=some (.bool (decide (a.q=b.q))):=by
 have e1:=V7 ha.fr hb.fr hk1 hk;rw[RV.fr_q,RV.fr_q] at e1;refine cK _ _ (vz _) rfl (m:=[cR a,cR b]) ?_;rw[UU];simp only[Nat.reduceAdd,O,aP,dD,d5,cZ,d6,d4,dF,dG,dH,eD,eE,dJ,dK,dI,cY,c8,eG,dM,dN,dL,df,dj,eH,dQ,dR,dP,dO,eI,eJ,dU,dV,dT,dS,eK,eL,dY,dZ,dX,dW,eM,eN,c6,c7,dE,dr,dC,dz,dw,d8,d9,dc,dp,a8,bq,aQ,bX,cc,aW,bj,cG,dn,eO,eh,cX,eo,dh,ew,ez,ef,e1,ik];congr 3;refine iz.2 ?_;rw[qc9]
 constructor
 .intro h;have:=Rat.sub_add_cancel (a:=a.q) (b:=b.q);rw[h,Rat.zero_add] at this;exact this.symm
 .intro h;rw[h,Rat.sub_self]
end Go.Ab
namespace Go.Ab
open Go.Proofs.Tryz
theorem V4{a b:RV}{k:Nat}(ha:ROk k a)(hb:ROk k b)(hk1:1<=k)(hk:k<2^36):∃s:RV,AP aa 69 [a.av,b.av]=some s.av/\Can s (a.q*b.q)/\s.fr=s:=by
 have g1:=uT ha.num.fr hb.num.fr;have g2:=uT ha.den.fr hb.den.fr;have v1:a.num.fr.v=a.num.v:=rfl;have v2:a.den.fr.v=a.den.v:=rfl;have v3:b.num.fr.v=b.num.v:=rfl;have v4:b.den.fr.v=b.den.v:=rfl;rw[v1,v3] at g1;rw[v2,v4] at g2;have ln:=nK (eP ha.num.v_len ha.ln) (eP hb.num.v_len hb.ln);have ld:=nK (eP ha.den.v_len ha.ld) (eP hb.den.v_len hb.ld);have on:NOk ⟨false,.no,aB (a.num.v*b.num.v)⟩:=qA Z;have od:NOk ⟨false,.no,aB (a.den.v*b.den.v)⟩:=qA Z;have nf:∀n:Nat,(NV.mk false .no (aB n)).fr=⟨false,.no,aB n⟩:=fun _=>rfl;have nv:∀n:Nat,(NV.mk false .no (aB n)).v=n:=fun n=>fB n;obtain ⟨r,h1,h2,h3⟩:=yK (a.neg != b.neg) on od;rw[nv,nv,<- L8] at h2;refine ⟨r,(cK _ _ (gQ r) (jv _) (m:=[cR a,cR b,cR r]) ?_).trans (by rw[h3]),h2,h3⟩;rw[Vc];simp only[Nat.reduceAdd,O,aP,dD,d5,cZ,d6,d4,dF,dG,dH,eD,eE,dJ,dK,dI,cY,c8,eG,dM,dN,dL,df,dj,eH,dQ,dR,dP,dO,eI,eJ,dU,dV,dT,dS,eK,eL,dY,dZ,dX,dW,eM,eN,c6,c7,dE,dr,dC,dz,dw,d8,d9,dc,dp,a8,bq,aQ,bX,cc,aW,bj,cG,dn,eO,eh,cX,eo,dh,ew,ez,ef,g1,g2,nf,h1]
theorem MG{r:RV}:ng r=0↔r.q=0:=by
 unfold ng
 by_cases h:r.num.v=0\/r.den.v=0
 .rw[ai h];refine ⟨fun _=>?_,fun _=>rfl⟩
  rcases h with h|h
  .rw[RV.q,h,EC]
  .rw[RV.q,h,wa]
 .rw[ag h]
  constructor
  .intro h';split at h'<;>omega
  .intro h';have hd:r.den.v≠0:=fun e=>h (.inr e);exact absurd (.inl ((L7 hd).1 h')) h
theorem V5{a b:RV}{k:Nat}(ha:ROk k a)(hb:ROk k b)(hk1:1<=k)(hk:k<2^36):∃s:RV,AP aa 71 [a.av,b.av]=some s.av/\Can s (a.q+b.q)/\s.fr=s:=by
 have e1:=Ik ha.fr;have e2:=Ik hb.fr;have s1:ng a.fr=ng a:=rfl;have s2:ng b.fr=ng b:=rfl;rw[s1] at e1;rw[s2] at e2;have v1:a.num.fr.v=a.num.v:=rfl;have v2:a.den.fr.v=a.den.v:=rfl;have v3:b.num.fr.v=b.num.v:=rfl;have v4:b.den.fr.v=b.den.v:=rfl
 by_cases ha0:ng a=0
 .obtain ⟨r,h1,h2,h3⟩:=yK b.neg hb.num.fr hb.den.fr;rw[v3,v4] at h2
  refine ⟨r,(cK _ _ (gQ r) (jv _) (m:=[cR a,cR b,cR r]) ?_).trans (by rw[h3]),?_,h3⟩
  .rw[uS];simp only[Nat.reduceAdd,O,aP,dD,d5,cZ,d6,d4,dF,dG,dH,eD,eE,dJ,dK,dI,cY,c8,eG,dM,dN,dL,df,dj,eH,dQ,dR,dP,dO,eI,eJ,dU,dV,dT,dS,eK,eL,dY,dZ,dX,dW,eM,eN,c6,c7,dE,dr,dC,dz,dw,d8,d9,dc,dp,a8,bq,aQ,bX,cc,aW,bj,cG,dn,eO,eh,cX,eo,dh,ew,ez,ef,e1,ik,az];rw[ai ha0];simp only[Nat.reduceAdd,O,aP,dD,d5,cZ,d6,d4,dF,dG,dH,eD,eE,dJ,dK,dI,cY,c8,eG,dM,dN,dL,df,dj,eH,dQ,dR,dP,dO,eI,eJ,dU,dV,dT,dS,eK,eL,dY,dZ,dX,dW,eM,eN,c6,c7,dE,dr,dC,dz,dw,d8,d9,dc,dp,a8,bq,aQ,bX,cc,aW,bj,cG,dn,eO,eh,cX,eo,dh,ew,ez,ef,h1]
  .rw[MG.1 ha0,Rat.zero_add];exact h2
 .by_cases hb0:ng b=0
  .obtain ⟨r,h1,h2,h3⟩:=yK a.neg ha.num.fr ha.den.fr;rw[v1,v2] at h2
   refine ⟨r,(cK _ _ (gQ r) (jv _) (m:=[cR a,cR b,cR r]) ?_).trans (by rw[h3]),?_,h3⟩
   .rw[uS];simp only[Nat.reduceAdd,O,aP,dD,d5,cZ,d6,d4,dF,dG,dH,eD,eE,dJ,dK,dI,cY,c8,eG,dM,dN,dL,df,dj,eH,dQ,dR,dP,dO,eI,eJ,dU,dV,dT,dS,eK,eL,dY,dZ,dX,dW,eM,eN,c6,c7,dE,dr,dC,dz,dw,d8,d9,dc,dp,a8,bq,aQ,bX,cc,aW,bj,cG,dn,eO,eh,cX,eo,dh,ew,ez,ef,e1,ik,az];rw[ag ha0];simp only[Nat.reduceAdd,O,aP,dD,d5,cZ,d6,d4,dF,dG,dH,eD,eE,dJ,dK,dI,cY,c8,eG,dM,dN,dL,df,dj,eH,dQ,dR,dP,dO,eI,eJ,dU,dV,dT,dS,eK,eL,dY,dZ,dX,dW,eM,eN,c6,c7,dE,dr,dC,dz,dw,d8,d9,dc,dp,a8,bq,aQ,bX,cc,aW,bj,cG,dn,eO,eh,cX,eo,dh,ew,ez,ef,e2,ik,az];rw[ai hb0];simp only[Nat.reduceAdd,O,aP,dD,d5,cZ,d6,d4,dF,dG,dH,eD,eE,dJ,dK,dI,cY,c8,eG,dM,dN,dL,df,dj,eH,dQ,dR,dP,dO,eI,eJ,dU,dV,dT,dS,eK,eL,dY,dZ,dX,dW,eM,eN,c6,c7,dE,dr,dC,dz,dw,d8,d9,dc,dp,a8,bq,aQ,bX,cc,aW,bj,cG,dn,eO,eh,cX,eo,dh,ew,ez,ef,h1]
   .rw[MG.1 hb0,Rat.add_zero];exact h2
  .have da:a.den.v≠0:=fun e=>ha0 (by unfold ng;rw[ai (.inr e)]);have db:b.den.v≠0:=fun e=>hb0 (by unfold ng;rw[ai (.inr e)]);have g1:=uT ha.num.fr hb.den.fr;have g2:=uT hb.num.fr ha.den.fr;have g3:=uT ha.den.fr hb.den.fr;rw[v1,v4] at g1;rw[v3,v2] at g2;rw[v2,v4] at g3;have lx:=nK (eP ha.num.v_len ha.ln) (eP hb.den.v_len hb.ld);have ly:=nK (eP hb.num.v_len hb.ln) (eP ha.den.v_len ha.ld);have ld:=nK (eP ha.den.v_len ha.ld) (eP hb.den.v_len hb.ld);have lxy:=DO lx ly;have ox:NOk ⟨false,.no,aB (a.num.v*b.den.v)⟩:=qA Z;have oy:NOk ⟨false,.no,aB (b.num.v*a.den.v)⟩:=qA Z;have od:NOk ⟨false,.no,aB (a.den.v*b.den.v)⟩:=qA Z;have nf:∀n:Nat,(NV.mk false .no (aB n)).fr=⟨false,.no,aB n⟩:=fun _=>rfl;have nv:∀n:Nat,(NV.mk false .no (aB n)).v=n:=fun n=>fB n;have g4:=VG ox oy;have g5:=ra ox oy;have g6:=Il ox oy;have g7:=Il oy ox;rw[nv,nv] at g4 g5;unfold E3 at g6 g7;rw[nv,nv] at g6 g7;have hsum:a.q+b.q=mkRat (eR a.neg (a.num.v*b.den.v)+eR b.neg (b.num.v*a.den.v)) (a.den.v*b.den.v):=Ai da db
   have fin:∀(neg:Bool) (n:Nat),(aB n).length<2^38->mkRat (eR a.neg (a.num.v*b.den.v)+eR b.neg (b.num.v*a.den.v)) (a.den.v*b.den.v)=cL neg n (a.den.v*b.den.v)->∃r:RV,AP aa 126 [.bool neg,(NV.mk false .no (aB n)).av,(NV.mk false .no (aB (a.den.v*b.den.v))).av]=some r.av/\Can r (a.q+b.q)/\r.fr=r:=by
    intro neg n hn he;obtain ⟨r,h1,h2,h3⟩:=yK neg (x:=⟨false,.no,aB n⟩) (qA Z) od;rw[nv,nv,<- he,<- hsum] at h2;exact ⟨r,h1,h2,h3⟩
   by_cases hn:a.neg=b.neg
   .obtain ⟨r,h1,h2,h3⟩:=fin a.neg (a.num.v*b.den.v+b.num.v*a.den.v) Z (by rw[<- hn,MA];rfl);refine ⟨r,(cK _ _ (gQ r) (jv _) (m:=[cR a,cR b,cR r]) ?_).trans (by rw[h3]),h2,h3⟩;rw[uS];simp only[Nat.reduceAdd,O,aP,dD,d5,cZ,d6,d4,dF,dG,dH,eD,eE,dJ,dK,dI,cY,c8,eG,dM,dN,dL,df,dj,eH,dQ,dR,dP,dO,eI,eJ,dU,dV,dT,dS,eK,eL,dY,dZ,dX,dW,eM,eN,c6,c7,dE,dr,dC,dz,dw,d8,d9,dc,dp,a8,bq,aQ,bX,cc,aW,bj,cG,dn,eO,eh,cX,eo,dh,ew,ez,ef,e1,ik,az];rw[ag ha0];simp only[Nat.reduceAdd,O,aP,dD,d5,cZ,d6,d4,dF,dG,dH,eD,eE,dJ,dK,dI,cY,c8,eG,dM,dN,dL,df,dj,eH,dQ,dR,dP,dO,eI,eJ,dU,dV,dT,dS,eK,eL,dY,dZ,dX,dW,eM,eN,c6,c7,dE,dr,dC,dz,dw,d8,d9,dc,dp,a8,bq,aQ,bX,cc,aW,bj,cG,dn,eO,eh,cX,eo,dh,ew,ez,ef,e2,ik,az];rw[ag hb0];rw[hn] at h1;simp only[Nat.reduceAdd,O,aP,dD,d5,cZ,d6,d4,dF,dG,dH,eD,eE,dJ,dK,dI,cY,c8,eG,dM,dN,dL,df,dj,eH,dQ,dR,dP,dO,eI,eJ,dU,dV,dT,dS,eK,eL,dY,dZ,dX,dW,eM,eN,c6,c7,dE,dr,dC,dz,dw,d8,d9,dc,dp,a8,bq,aQ,bX,cc,aW,bj,cG,dn,eO,eh,cX,eo,dh,ew,ez,ef,g1,g2,g3,nf,hn,BEq.rfl,pu,g4,h1]
   .have hne:(a.neg==b.neg)=false:=by simpa using hn
    by_cases hlt:a.num.v*b.den.v<b.num.v*a.den.v
    .obtain ⟨r,h1,h2,h3⟩:=fin b.neg (b.num.v*a.den.v-a.num.v*b.den.v) (im (iQ (Nat.sub_le _ _)) Z) (by rw[Mz hn hlt];rfl);refine ⟨r,(cK _ _ (gQ r) (jv _) (m:=[cR b,cR b,cR r]) ?_).trans (by rw[h3]),h2,h3⟩;have hc:fS (a.num.v*b.den.v) (b.num.v*a.den.v)<0:=by unfold fS;rw[ai hlt];omega
     rw[ag Z] at g7;rw[uS];simp only[Nat.reduceAdd,O,aP,dD,d5,cZ,d6,d4,dF,dG,dH,eD,eE,dJ,dK,dI,cY,c8,eG,dM,dN,dL,df,dj,eH,dQ,dR,dP,dO,eI,eJ,dU,dV,dT,dS,eK,eL,dY,dZ,dX,dW,eM,eN,c6,c7,dE,dr,dC,dz,dw,d8,d9,dc,dp,a8,bq,aQ,bX,cc,aW,bj,cG,dn,eO,eh,cX,eo,dh,ew,ez,ef,e1,ik,az];rw[ag ha0];simp only[Nat.reduceAdd,O,aP,dD,d5,cZ,d6,d4,dF,dG,dH,eD,eE,dJ,dK,dI,cY,c8,eG,dM,dN,dL,df,dj,eH,dQ,dR,dP,dO,eI,eJ,dU,dV,dT,dS,eK,eL,dY,dZ,dX,dW,eM,eN,c6,c7,dE,dr,dC,dz,dw,d8,d9,dc,dp,a8,bq,aQ,bX,cc,aW,bj,cG,dn,eO,eh,cX,eo,dh,ew,ez,ef,e2,ik,az];rw[ag hb0];simp only[Nat.reduceAdd,O,aP,dD,d5,cZ,d6,d4,dF,dG,dH,eD,eE,dJ,dK,dI,cY,c8,eG,dM,dN,dL,df,dj,eH,dQ,dR,dP,dO,eI,eJ,dU,dV,dT,dS,eK,eL,dY,dZ,dX,dW,eM,eN,c6,c7,dE,dr,dC,dz,dw,d8,d9,dc,dp,a8,bq,aQ,bX,cc,aW,bj,cG,dn,eO,eh,cX,eo,dh,ew,ez,ef,g1,g2,g3,nf,hne,rA,g5,bg,az];rw[ai hc];simp only[Nat.reduceAdd,O,aP,dD,d5,cZ,d6,d4,dF,dG,dH,eD,eE,dJ,dK,dI,cY,c8,eG,dM,dN,dL,df,dj,eH,dQ,dR,dP,dO,eI,eJ,dU,dV,dT,dS,eK,eL,dY,dZ,dX,dW,eM,eN,c6,c7,dE,dr,dC,dz,dw,d8,d9,dc,dp,a8,bq,aQ,bX,cc,aW,bj,cG,dn,eO,eh,cX,eo,dh,ew,ez,ef,nf,g7,h1]
    .obtain ⟨r,h1,h2,h3⟩:=fin a.neg (a.num.v*b.den.v-b.num.v*a.den.v) (im (iQ (Nat.sub_le _ _)) Z) (by rw[My hn hlt];rfl);refine ⟨r,(cK _ _ (gQ r) (jv _) (m:=[cR a,cR b,cR r]) ?_).trans (by rw[h3]),h2,h3⟩;have hc:¬ fS (a.num.v*b.den.v) (b.num.v*a.den.v)<0:=by unfold fS;rw[ag hlt];split<;>omega
     rw[ag hlt] at g6;rw[uS];simp only[Nat.reduceAdd,O,aP,dD,d5,cZ,d6,d4,dF,dG,dH,eD,eE,dJ,dK,dI,cY,c8,eG,dM,dN,dL,df,dj,eH,dQ,dR,dP,dO,eI,eJ,dU,dV,dT,dS,eK,eL,dY,dZ,dX,dW,eM,eN,c6,c7,dE,dr,dC,dz,dw,d8,d9,dc,dp,a8,bq,aQ,bX,cc,aW,bj,cG,dn,eO,eh,cX,eo,dh,ew,ez,ef,e1,ik,az];rw[ag ha0];simp only[Nat.reduceAdd,O,aP,dD,d5,cZ,d6,d4,dF,dG,dH,eD,eE,dJ,dK,dI,cY,c8,eG,dM,dN,dL,df,dj,eH,dQ,dR,dP,dO,eI,eJ,dU,dV,dT,dS,eK,eL,dY,dZ,dX,dW,eM,eN,c6,c7,dE,dr,dC,dz,dw,d8,d9,dc,dp,a8,bq,aQ,bX,cc,aW,bj,cG,dn,eO,eh,cX,eo,dh,ew,ez,ef,e2,ik,az];rw[ag hb0];simp only[Nat.reduceAdd,O,aP,dD,d5,cZ,d6,d4,dF,dG,dH,eD,eE,dJ,dK,dI,cY,c8,eG,dM,dN,dL,df,dj,eH,dQ,dR,dP,dO,eI,eJ,dU,dV,dT,dS,eK,eL,dY,dZ,dX,dW,eM,eN,c6,c7,dE,dr,dC,dz,dw,d8,d9,dc,dp,a8,bq,aQ,bX,cc,aW,bj,cG,dn,eO,eh,cX,eo,dh,ew,ez,ef,g1,g2,g3,nf,hne,rA,g5,bg,az];rw[ag hc];simp only[Nat.reduceAdd,O,aP,dD,d5,cZ,d6,d4,dF,dG,dH,eD,eE,dJ,dK,dI,cY,c8,eG,dM,dN,dL,df,dj,eH,dQ,dR,dP,dO,eI,eJ,dU,dV,dT,dS,eK,eL,dY,dZ,dX,dW,eM,eN,c6,c7,dE,dr,dC,dz,dw,d8,d9,dc,dp,a8,bq,aQ,bX,cc,aW,bj,cG,dn,eO,eh,cX,eo,dh,ew,ez,ef,nf,g6,h1]
end Go.Ab
namespace Go.Ab
open Go.Proofs.Tryz
theorem Lh(m:af):aC none m (.B [.bool false,aw,aw])=(m.length,m++[cR zR]):=rfl
end Go.Ab
namespace Go.Ab
noncomputable section
open Go.Proofs.Tryz
end
end Go.Ab
namespace Go.Ab
noncomputable section
variable (a0 a1 a2 x0 x1 x2 x3 x4 x5 x6 x7 x8 x10 x11 x12 x15 x16 x17 x22 x23 x24 x52 x53 x54 x76 x77 x78 x107 x108 x109:AV) (m:af) (K:KT)
open Go.Proofs.Tryz
def Cm:St:=⟨(bm (bh (aH []))),m⟩
def uP:St:=⟨(aJ (x4::bm (aO (aJ (aG []))))),m⟩
def xV:OM:=bD 63 (bI (c2 (c2 (aA f63)))) 4 (x0::aO (aJ (aH (x15::x16::x17::bm [])))) m K
def Cn:St:=⟨(x0::aJ (x5::x6::x7::aJ (aH (aG (x15::x16::x17::bm []))))),m⟩
def yF:St:=⟨(aJ (x4::bm (aO (aJ (aG []))))),m⟩
def xW:OM:=bD 63 (bI (jf (jf (kZ (aA f63))))) 8 (x0::aJ (x5::x6::x7::aJ (aH (aG (x15::x16::x17::aJ (x22::x23::x24::bh (aO (aG [])))))))) m K
abbrev Sg:KT:=bi 63 (c2 (c2 (c2 (aA f63)))) K
abbrev Si:KT:=be 0 (Sg K)
abbrev Bv:KT:=(Si K)
abbrev Sl:KT:=bi 63 (js (kn (c2 (aA f63)))) (kI 63 (bI (c2 (c2 (aA f63)))) 4 K)
abbrev Sm:KT:=be 1 (Sl K)
abbrev Sn:KT:=bi 63 (js (s9 (kn (c2 (aA f63))))) (Sm K)
abbrev So:KT:=be 2 (Sn K)
abbrev w4:KT:=(So K)
theorem U6:AC aa 63 [a0,a1] m=(aL false a1).bind fun v1=>(aL false a0).bind fun v2=>(ae .o .neq v1 v2).bind fun v3=>au v3 (some ((.bool false),m)) ((aL false a1).bind fun v4=>xV a0 a1 v4 (.I 0) m (Bv (aD f63))):=
(aZ aa 63 [a0,a1] m (fn:=f63) (c:=aA f63) YL rfl).trans aj
theorem GY:xV x0 x15 x16 x17 m K=(ae .o .lss x17 x16).bind fun v1=>au v1 ((aE none x15 x17).bind fun v2=>(am none m v2).bind fun v3=>(aL false v3).bind fun v4=>xW x0 x17 v3 (.I 0) x15 x16 x17 v3 v4 (.I 0) m (w4 K)) (K (.exit 0) (Cm m)):=
(bC (bw _) _ _ _).trans aj
theorem GZ:xW x0 x5 x6 x7 x15 x16 x17 x22 x23 x24 m K=(ae .o .lss x24 x23).bind fun v1=>au v1 ((aE none x22 x24).bind fun v2=>(am none m v2).bind fun v3=>(ae .o .lss v3 (.I 0)).bind fun v4=>au v4 (K .ret (yF (.bool false) m)) ((ae .o .gtr v3 (.I 1000)).bind fun v5=>au v5 (K .ret (yF (.bool false) m)) ((ae .o .add x7 v3).bind fun v6=>(ae .o .add x24 (.I 1)).bind fun v7=>xW x0 x5 x6 v6 x15 x16 x17 x22 x23 v7 m K))) (K (.exit 2) (Cn x0 x5 x6 x7 x15 x16 x17 m)):=
(bC (bw _) _ _ _).trans aj
theorem Sk:Bv (aD f63) (.exit 0) (Cm  m)=some ((.bool true),m):=aj
theorem Sj:Bv (aD f63) .ret (uP x4 m)=some (x4,m):=aj
theorem Sq:w4 K (.exit 2) (Cn x0 x5 x6 x7 x15 x16 x17 m)=(aL false x6).bind fun v1=>(aE none x0 x5).bind fun v2=>(am none m v2).bind fun v3=>(ae .o .neq v1 v3).bind fun v4=>au v4 (K .ret (uP (.bool false) m)) ((ae .o .eql x7 (.I 0)).bind fun v5=>au v5 (K .ret (uP (.bool false) m)) ((ae .o .add x17 (.I 1)).bind fun v6=>xV x0 x15 x16 v6 m K)):=aj
theorem Sp:w4 K .ret (yF x4 m)=K .ret (uP x4 m):=aj
def Co:St:=⟨(x0::x1::aH (x4::x5::bh (aO []))),m⟩
def xX:OM:=bD 70 (bI (c2 (c2 (aA f70)))) 3 (x0::x1::aH (x4::x5::aJ (x10::x11::x12::bh (aG [])))) m K
abbrev Sr:KT:=bi 70 (c2 (c2 (c2 (aA f70)))) K
abbrev Ss:KT:=be 0 (Sr K)
abbrev Bw:KT:=(Ss K)
theorem Vd:AC aa 70 [a0,a1] m=(aL false a0).bind fun v1=>xX a0 a1 (.ptr (aC none m .resv).1 0) (.I 0) a0 v1 (.I 0) (aC none m (.B [(.bool false),aw,aw])).2 (Bw (aD f70)):=
(aZ aa 70 [a0,a1] m (fn:=f70) (c:=aA f70) YS rfl).trans aj
theorem G1:xX x0 x1 x4 x5 x10 x11 x12 m K=(ae .o .lss x12 x11).bind fun v1=>au v1 ((aE none x10 x12).bind fun v2=>(am none m v2).bind fun v3=>(ae .o .add x5 v3).bind fun v4=>(ae .o .add x12 (.I 1)).bind fun v5=>xX x0 x1 x4 v4 x10 x11 v5 m K) (K (.exit 0) (Co x0 x1 x4 x5 m)):=
(bC (bw _) _ _ _).trans aj
theorem Su:Bw (aD f70) (.exit 0) (Co x0 x1 x4 x5 m)=(aE none x0 x1).bind fun v1=>(am none m v1).bind fun v2=>(aF (AP aa) none m 128 [v2,x5]).bind fun r3=>(aT r3.1 0).bind fun v4=>(aT r3.1 1).bind fun v5=>(aM (some 3) (aC none r3.2 (.B [(.bool false),aw,aw])).2 (.ptr (aC none r3.2 .resv).1 0) v4).bind fun m6=>(am (some 3) m6 (.ptr (aC none r3.2 .resv).1 0)).bind fun v7=>(aM (some 3) m6 x4 v7).bind fun m8=>(am (some 3) m8 x4).bind fun v9=>some (v9,m8):=aj
theorem Va:AC aa 67 [a0,a1,a2] m=(am none m a2).bind fun v1=>(am none m a2).bind fun v2=>(AC aa 68 [v1,a0] m).bind fun r3=>pv ((am none r3.2 a2).bind (fun v=>some (v,r3.2))=some (v2,r3.2)) ((AC aa 68 [v2,a1] r3.2).bind fun r4=>(ae .o .sub r3.1 r4.1).bind fun v5=>some (v5,r4.2)):=
(aZ aa 67 [a0,a1,a2] m (fn:=f67) (c:=aA f67) YP rfl).trans aj
def B4:St:=⟨(aO (x8::aH (aG (x12::bc (bm (aO (aJ (aH [])))))))),m⟩
def sy:OM:=bD 17 (bI (aV (aV (aA f17)))) 11 (aH (x2::x3::aJ (x8::aG (x10::aG (x12::bm (aJ (aH (aG (x52::x53::x54::bc (aJ [])))))))))) m K
def yz:St:=⟨(aH (x2::x3::aJ (x8::aG (x10::aG (x12::bm (aJ (aH (aG (x52::x53::x54::bc (aJ [])))))))))),m⟩
def lV:OM:=bD 17 (rm (jf (jf (kZ (aV (c2 (c2 (aA f17)))))))) 17 (aH (x2::x3::aJ (x8::aG (x10::aG (x12::aH (x15::x16::bm (aH (aG (x52::x53::x54::bh (aJ (aG (x76::x77::x78::bm (aO (aJ [])))))))))))))) m K
def B5:St:=⟨(bh (aJ (aH (x22::bc (bm (aJ [])))))),m⟩
def ur:OM:=bD 17 (bI (aV (aV (c2 (c2 (aA f17)))))) 28 (aO (aJ (x12::aO (aG (x22::bc (bh (aJ (x107::x108::x109::aO (aJ (aG [])))))))))) m K
abbrev Qx:KT:=bi 17 (aV (aV (c2 (aA f17)))) K
abbrev Qy:KT:=be 0 (Qx K)
abbrev wT:KT:=(Qy K)
abbrev QA:KT:=bi 17 (js (kn (aV (c2 (c2 (c2 (aA f17))))))) (kI 17 (bI (aV (aV (aA f17)))) 11 K)
abbrev QB:KT:=be 1 (QA K)
abbrev QC:KT:=be 2 (QB K)
abbrev qR:KT:=(QC K)
abbrev QD:KT:=bi 17 (aV (aV (c2 (c2 (c2 (aA f17)))))) K
abbrev QE:KT:=be 4 (QD K)
abbrev wU:KT:=(QE K)
theorem UG:AC aa 17 [a0,a1,a2] m=(cQ none none m a0).bind fun r1=>(am none r1.2 r1.1).bind fun v2=>(AC aa 41 [v2,a1] r1.2).bind fun r3=>(aT r3.1 0).bind fun v4=>(aT r3.1 1).bind fun v5=>(ae .o .neq v5 (.I 0)).bind fun v6=>au v6 (some ((.tup [aw,v5]),r3.2)) ((am none r3.2 r1.1).bind fun v7=>(d7 v7).bind fun v8=>(aR 0 v8).bind fun v9=>(am none r3.2 v9).bind fun v10=>(aF (AP aa) none r3.2 63 [v10,a2]).bind fun r11=>(il .not r11.1).bind fun v12=>au v12 (some ((.tup [aw,(.I 1)]),r11.2)) ((aF (AP aa) none (aC none r11.2 (.mp (.int .i64) [])).2 64 []).bind fun r13=>(gM (.int .i64) r13.2 (.mref (aC none r11.2 .resv).1) a1 r13.1).bind fun m14=>(am none m14 r1.1).bind fun v15=>(AC aa 65 [v15,a1] m14).bind fun r16=>(AC aa 66 [r16.1,(.fn 67 [r1.1])] r16.2).bind fun r17=>(aL false r16.1).bind fun v18=>sy a2 r1.1 v4 (.mref (aC none r11.2 .resv).1) (.mref (aC none r17.2 .resv).1) r16.1 v18 (.I 0) (aC none r17.2 (.mp (.int .i64) [])).2 (wT (aD f17)))):=
(aZ aa 17 [a0,a1,a2] m (fn:=f17) (c:=aA f17) Yb rfl).trans aj
theorem Gw:sy x2 x3 x8 x10 x12 x52 x53 x54 m K=(ae .o .lss x54 x53).bind fun v1=>au v1 ((aE none x52 x54).bind fun v2=>(am none m v2).bind fun v3=>(am none (ck m 2) x3).bind fun v4=>(d7 v4).bind fun v5=>(aR 1 v5).bind fun v6=>(am none (ck m 2) v6).bind fun v7=>(aE (some 3) v7 v3).bind fun v8=>(am (some 3) (ck m 2) v8).bind fun v9=>(i6 (.int .i64) (.agg [(.bool false),aw,aw]) (ck m 2) x10 v3).bind fun q10=>(aM (some 3) (aC (some (m.length+1)) (aC (some m.length) (ck m 2) (.B [(.I 0),aw,(.I 0)])).2 (.B [(.bool false),aw,aw])).2 (.ptr (aC (some m.length) (ck m 2) .resv).1 0) v9).bind fun m11=>(aM (some 3) m11 (.ptr (aC (some (m.length+1)) (aC (some m.length) (ck m 2) (.B [(.I 0),aw,(.I 0)])).2 .resv).1 0) q10.1).bind fun m12=>(aR 0 (.ptr (aC (some m.length) (ck m 2) .resv).1 0)).bind fun v13=>(am none m12 v13).bind fun v14=>(ae .o .lss v14 (.I 0)).bind fun v15=>au v15 ((aR 2 (.ptr (aC (some m.length) (ck m 2) .resv).1 0)).bind fun v16=>(am none m12 v16).bind fun v17=>(am (some 3) m12 (.ptr (aC (some (m.length+1)) (aC (some m.length) (ck m 2) (.B [(.I 0),aw,(.I 0)])).2 .resv).1 0)).bind fun v18=>(gM (.int .i64) m12 x12 v17 v18).bind fun m19=>(aR 1 (.ptr (aC (some m.length) (ck m 2) .resv).1 0)).bind fun v20=>(am none m19 v20).bind fun v21=>(aL false v21).bind fun v22=>lV x2 x3 x8 x10 x12 (.ptr (aC (some m.length) (ck m 2) .resv).1 0) (.ptr (aC (some (m.length+1)) (aC (some m.length) (ck m 2) (.B [(.I 0),aw,(.I 0)])).2 .resv).1 0) x52 x53 x54 v21 v22 (.I 0) m19 (qR K)) ((aR 1 (.ptr (aC (some m.length) (ck m 2) .resv).1 0)).bind fun v23=>(am none m12 v23).bind fun v24=>(aL false v24).bind fun v25=>lV x2 x3 x8 x10 x12 (.ptr (aC (some m.length) (ck m 2) .resv).1 0) (.ptr (aC (some (m.length+1)) (aC (some m.length) (ck m 2) (.B [(.I 0),aw,(.I 0)])).2 .resv).1 0) x52 x53 x54 v24 v25 (.I 0) m12 (qR K))) (K (.exit 0) (B4 x8 x12 m)):=
(bC (bw _) _ _ _).trans aj
theorem BH:lV x2 x3 x8 x10 x12 x15 x16 x52 x53 x54 x76 x77 x78 m K=(ae .o .lss x78 x77).bind fun v1=>au v1 ((aE none x76 x78).bind fun v2=>(am none m v2).bind fun v3=>(am (some 3) (ck m 1) x16).bind fun v4=>(aR 0 x15).bind fun v5=>(am none (ck m 1) v5).bind fun v6=>(aE none x2 v6).bind fun v7=>(am none (ck m 1) v7).bind fun v8=>(aF (AP aa) (some m.length) (ck m 1) 70 [v8,x78]).bind fun r9=>(aF (AP aa) (some m.length) r9.2 69 [v4,r9.1]).bind fun r10=>(aM (some 3) (aC (some m.length) r10.2 (.B [(.bool false),aw,aw])).2 (.ptr (aC (some m.length) r10.2 .resv).1 0) r10.1).bind fun m11=>(i6 (.int .i64) (.agg [(.bool false),aw,aw]) m11 x10 v3).bind fun q12=>(aT (.tup [q12.1,.bool q12.2]) 0).bind fun v13=>(aT (.tup [q12.1,.bool q12.2]) 1).bind fun v14=>(aM (some 3) (aC none m11 (.B [(.bool false),aw,aw])).2 (.ptr (aC none m11 .resv).1 0) v13).bind fun m15=>au v14 ((am (some 3) m15 (.ptr (aC none m11 .resv).1 0)).bind fun v16=>(am (some 3) m15 (.ptr (aC (some m.length) r10.2 .resv).1 0)).bind fun v17=>(aF (AP aa) none m15 71 [v16,v17]).bind fun r18=>(aM (some 3) r18.2 (.ptr (aC (some m.length) r10.2 .resv).1 0) r18.1).bind fun m19=>(am (some 3) m19 (.ptr (aC (some m.length) r10.2 .resv).1 0)).bind fun v20=>(gM (.int .i64) m19 x10 v3 v20).bind fun m21=>(ae .o .add x78 (.I 1)).bind fun v22=>lV x2 x3 x8 x10 x12 x15 x16 x52 x53 x54 x76 x77 v22 m21 K) ((am (some 3) m15 (.ptr (aC (some m.length) r10.2 .resv).1 0)).bind fun v23=>(gM (.int .i64) m15 x10 v3 v23).bind fun m24=>(ae .o .add x78 (.I 1)).bind fun v25=>lV x2 x3 x8 x10 x12 x15 x16 x52 x53 x54 x76 x77 v25 m24 K)) (K (.exit 2) (yz x2 x3 x8 x10 x12 x52 x53 x54 m)):=
(bC (bw _) _ _ _).trans aj
theorem Gx:ur x12 x22 x107 x108 x109 m K=(ae .o .lss x109 x108).bind fun v1=>au v1 ((aE none x107 x109).bind fun v2=>(am none m v2).bind fun v3=>(i6 (.int .i64) (.agg [(.bool false),aw,aw]) m x12 v3).bind fun q4=>(e9 (.agg [(.I 0),(.bool false),aw,aw]) [(0,none,v3),(1,(some 3),q4.1)]).bind fun v5=>(cq (some 4) [v5]).bind fun v6=>(bF none false 46 (some 4) 64 m x22 v6).bind fun r7=>(ae .o .add x109 (.I 1)).bind fun v8=>ur x12 r7.1 x107 x108 v8 r7.2 K) (K (.exit 4) (B5 x22 m)):=
(bC (bw _) _ _ _).trans aj
theorem Qz:wT (aD f17) (.exit 0) (B4 x8 x12 m)=(aL false x8).bind fun v1=>ur x12 aw x8 v1 (.I 0) m (wU (aD f17)):=aj
theorem FO:qR K (.exit 2) (yz x2 x3 x8 x10 x12 x52 x53 x54 m)=(ae .o .add x54 (.I 1)).bind fun v1=>sy x2 x3 x8 x10 x12 x52 x53 v1 m K:=aj
theorem QF:wU (aD f17) (.exit 4) (B5 x22 m)=some ((.tup [x22,(.I 0)]),m):=aj
end
end Go.Ab
namespace Go.Ab
noncomputable section
open Go.Proofs.Tryz
end
end Go.Ab
namespace Go.Ab.Pq
open Go.Proofs.Tryz
structure IL where
 z:Bool
 o:Own
 ns:List Int
def iA(n:Int):AV:=.I n
def IL.av(l:IL):AV:=.lst none l.z l.o (l.ns.map iA)
def IL.fr(l:IL):IL:=⟨l.z,l.o.fr,l.ns⟩
structure ND where
 var:Int
 kids:IL
 leaf:Int
def ND.av(n:ND):AV:=.agg [.I n.var,n.kids.av,.I n.leaf]
structure OL where
 z:Bool
 o:Own
 es:List IL
def OL.av(l:OL):AV:=.lst none l.z l.o (l.es.map IL.av)
def OL.fr(l:OL):OL:=⟨l.z,l.o.fr,l.es⟩
structure NL where
 sh:Sh
 z:Bool
 o:Own
 es:List ND
def NL.av(l:NL):AV:=.lst l.sh l.z l.o (l.es.map ND.av)
def NL.fr(l:NL):NL:=⟨l.sh,l.z,l.o.fr,l.es⟩
structure CV where
 odds:OL
 nodes:NL
 ws:LV
 leaf:Int
def CV.av(c:CV):AV:=.agg [c.odds.av,c.nodes.av,c.ws.av,.I c.leaf]
def CV.fr(c:CV):CV:=⟨c.odds.fr,c.nodes.fr,c.ws.fr,c.leaf⟩
theorem fz_il(l:IL):Fz l.av l.fr.av:=fun m=>zA none l.z l.o (l.ns.map iA) m 8
theorem fz_ol(l:OL):Fz l.av l.fr.av:=fun m=>zA none l.z l.o (l.es.map IL.av) m 8
theorem rF(l:IL):aL false l.av=some (.I l.ns.length):=by simp[IL.av,aL]
theorem KH(l:OL):aL false l.av=some (.I l.es.length):=by simp[OL.av,aL]
theorem te{l:IL}{k:Nat}{kk:IntKind}(hk:k<l.ns.length):aE none l.av (.int kk k)=some (.vptr [iA l.ns[k]]):=by
 simp[IL.av,aE,hk,iA,AV.cells]
theorem th(m:af)(n:Int):am none m (.vptr [iA n])=some (.I n):=rfl
theorem index_ol{l:OL}{k:Nat}{kk:IntKind}(hk:k<l.es.length):aE none l.av (.int kk k)=some (.vptr [l.es[k].av]):=by
 simp[OL.av,aE,hk,IL.av,AV.cells]
theorem load_ol(m:af)(n:IL):am none m (.vptr [n.av])=some n.av:=rfl
def cN(n:ND):Option Ent:=some (.B [.I n.var,n.kids.av,.I n.leaf])
def cC(c:CV):Option Ent:=some (.B [c.odds.av,c.nodes.av,c.ws.av,.I c.leaf])
def mE(o:Int):Bool:=decide (0<=o/\o<=1000)
def rowB(l:IL)(a:Int):Bool:=l.ns.all mE&&(decide ((l.ns.length:Int)=a)&&decide (l.ns.sum≠0))
def oddsB(arms:IL)(L:OL):Bool:=decide (L.es.length=arms.ns.length)&&(L.es.zip arms.ns).all fun p=>rowB p.1 p.2
theorem oddB_iff{o:Int}:mE o=true↔0<=o/\o<=1000:=by unfold mE;exact decide_eq_true_iff
theorem yT(l:IL)(hl:l.ns.length<=64)(x0 x5 x6 x15 x16 x17:AV)(m:af)(K:KT):∀(j i:Nat) (s:Int),i+j=l.ns.length->0<=s->s<=1000*i ->
  xW x0 x5 x6 (.I s) x15 x16 x17 l.av (.I l.ns.length) (.I i) m K=if (l.ns.drop i).all mE then K (.exit 2) (Cn x0 x5 x6 (.I (s+(l.ns.drop i).sum)) x15 x16 x17 m) else K .ret (yF (.bool false) m)
 | 0,i,s,h,h0,h1=>by
  rw[GZ,bS,O,az,ag Z,fQ Z,List.sum_nil,Int.add_zero];rfl
 | j+1,i,s,h,h0,h1=>by
  have hi:i<l.ns.length:=Z;rw[GZ,bS,O,az,ai hi,te hi,O,th,O,bg,O,az,ic hi,lW,jC]
  by_cases c1:l.ns[i]<0
  .rw[ai c1,show mE l.ns[i]=false from eX Z];rfl
  .rw[ag c1,gI,O,az]
   by_cases c2:l.ns[i]>1000
   .rw[ai c2,show mE l.ns[i]=false from eX Z];rfl
   .have ih:=yT l hl x0 x5 x6 x15 x16 x17 m K j (i+1) (s+l.ns[i]) Z Z Z;rw[ag c2,iY,gz Z Z,O,b6 Z,O,ih,show mE l.ns[i]=true from eT Z,jc,Int.add_assoc]
theorem IU(arms:IL)(L:OL)(hlen:L.es.length=arms.ns.length)(h64:∀l∈L.es,l.ns.length<=64)(h40:L.es.length<=40)(m:af)(K:KT):∀j i:Nat,i+j=L.es.length ->
  xV arms.av L.av (.I L.es.length) (.I i) m K=if ((L.es.zip arms.ns).drop i).all (fun p=>rowB p.1 p.2) then K (.exit 0) (Cm m) else K .ret (uP (.bool false) m)
 | 0,i,h=>by
  rw[GY,bS,O,az,ag Z,fQ (by rw[uI];omega)];rfl
 | j+1,i,h=>by
  have hi:i<L.es.length:=Z;have hz:i<(L.es.zip arms.ns).length:=by rw[uI];omega
  have ih:=IU arms L hlen h64 h40 m K j (i+1) Z;have hx:=yT L.es[i] (h64 _ (bp hi)) arms.av (.I i) L.es[i].av L.av (.I L.es.length) (.I i) m (w4 K) L.es[i].ns.length 0 0 Z Z Z;rw[dk,Int.zero_add,show (((0:Nat):Int))=(0:Int) from rfl] at hx;rw[GY,bS,O,az,ai hi,index_ol hi,O,load_ol,O,rF,O,hx,ic hz,lW,List.getElem_zip];dsimp only;unfold rowB
  by_cases c1:L.es[i].ns.all mE=true
  .rw[ai c1,Sq,rF,O,te Z,O,th,O,gt,O,az,c1,jc]
   by_cases c2:(L.es[i].ns.length:Int)=arms.ns[i]
   .rw[ag Z,ik,O,az,eT c2,jc]
    by_cases c3:L.es[i].ns.sum=0
    .rw[ai c3,eX Z];rfl
    .rw[ag c3,eT c3,jc,b6 Z,O,ih];rfl
   .rw[ai c2,eX c2];rfl
  .rw[ag c1,Sp,Bool.eq_false_iff.2 c1];rfl
theorem V63(arms:IL)(L:OL)(h64:∀l∈L.es,l.ns.length<=64)(h40:L.es.length<=40):AP aa 63 [arms.av,L.av]=some (.bool (oddsB arms L)):=by
 refine cK _ _ (vz _) rfl (m:=[]) ?_;unfold oddsB;rw[U6,KH,O,rF,O,gt,O,az]
 by_cases h:L.es.length=arms.ns.length
 .rw[ag Z,O,show ((0:Int))=((0:Nat):Int) from rfl,IU arms L h h64 h40 [] _ L.es.length 0 Z,dk,eT h,jc]
  by_cases h2:(L.es.zip arms.ns).all (fun p=>rowB p.1 p.2)=true
  .rw[ai h2,h2,Sk]
  .rw[ag h2,Bool.eq_false_iff.2 h2,Sj]
 .rw[ai Z,eX h];rfl
theorem I2(l:IL)(hl:l.ns.length<=64)(x0 x5 x6 x15 x16 x17:AV)(m:af)(K:KT):∀(j i:Nat) (s:Int),i+j=l.ns.length->0<=s->s<=1000*i ->
  xK x0 x5 x6 (.I s) x15 x16 x17 l.av (.I l.ns.length) (.I i) m K=if (l.ns.drop i).all mE then K (.exit 2) (Cc x0 x5 x6 (.I (s+(l.ns.drop i).sum)) x15 x16 x17 m) else K .ret (yD (.bool false) m)
 | 0,i,s,h,h0,h1=>by
  rw[GE,bS,O,az,ag Z,fQ Z,List.sum_nil,Int.add_zero];rfl
 | j+1,i,s,h,h0,h1=>by
  have hi:i<l.ns.length:=Z;rw[GE,bS,O,az,ai hi,te hi,O,th,O,bg,O,az,ic hi,lW,jC]
  by_cases c1:l.ns[i]<0
  .rw[ai c1,show mE l.ns[i]=false from eX Z];rfl
  .rw[ag c1,gI,O,az]
   by_cases c2:l.ns[i]>1000
   .rw[ai c2,show mE l.ns[i]=false from eX Z];rfl
   .have ih:=I2 l hl x0 x5 x6 x15 x16 x17 m K j (i+1) (s+l.ns[i]) Z Z Z;rw[ag c2,iY,gz Z Z,O,b6 Z,O,ih,show mE l.ns[i]=true from eT Z,jc,Int.add_assoc]
theorem II(arms:IL)(L:OL)(hlen:L.es.length=arms.ns.length)(h64:∀l∈L.es,l.ns.length<=64)(h40:L.es.length<=40)(m:af)(K:KT):∀j i:Nat,i+j=L.es.length ->
  xJ arms.av L.av (.I L.es.length) (.I i) m K=if ((L.es.zip arms.ns).drop i).all (fun p=>rowB p.1 p.2) then K (.exit 0) (Cb m) else K .ret (uO (.bool false) m)
 | 0,i,h=>by
  rw[GD,bS,O,az,ag Z,fQ (by rw[uI];omega)];rfl
 | j+1,i,h=>by
  have hi:i<L.es.length:=Z;have hz:i<(L.es.zip arms.ns).length:=by rw[uI];omega
  have ih:=II arms L hlen h64 h40 m K j (i+1) Z;have hx:=I2 L.es[i] (h64 _ (bp hi)) arms.av (.I i) L.es[i].av L.av (.I L.es.length) (.I i) m (wV K) L.es[i].ns.length 0 0 Z Z Z;rw[dk,Int.zero_add,show (((0:Nat):Int))=(0:Int) from rfl] at hx;rw[GD,bS,O,az,ai hi,index_ol hi,O,load_ol,O,rF,O,hx,ic hz,lW,List.getElem_zip];dsimp only;unfold rowB
  by_cases c1:L.es[i].ns.all mE=true
  .rw[ai c1,Rj,rF,O,te Z,O,th,O,gt,O,az,c1,jc]
   by_cases c2:(L.es[i].ns.length:Int)=arms.ns[i]
   .rw[ag Z,ik,O,az,eT c2,jc]
    by_cases c3:L.es[i].ns.sum=0
    .rw[ai c3,eX Z];rfl
    .rw[ag c3,eT c3,jc,b6 Z,O,ih];rfl
   .rw[ai c2,eX c2];rfl
  .rw[ag c1,Ri,Bool.eq_false_iff.2 c1];rfl
theorem V18(arms:IL)(L:OL)(h64:∀l∈L.es,l.ns.length<=64)(h40:L.es.length<=40):AP aa 18 [arms.av,L.av]=some (.bool (oddsB arms L)):=by
 refine cK _ _ (vz _) rfl (m:=[]) ?_;unfold oddsB;rw[UK,KH,O,rF,O,gt,O,az]
 by_cases h:L.es.length=arms.ns.length
 .rw[ag Z,O,show ((0:Int))=((0:Nat):Int) from rfl,II arms L h h64 h40 [] _ L.es.length 0 Z,dk,eT h,jc]
  by_cases h2:(L.es.zip arms.ns).all (fun p=>rowB p.1 p.2)=true
  .rw[ai h2,h2,Rd]
  .rw[ag h2,Bool.eq_false_iff.2 h2,Rb]
 .rw[ai Z,eX h];rfl
end Go.Ab.Pq
namespace Go.Ab.Pq
open Go.Proofs.Tryz
end Go.Ab.Pq
namespace Go.Ab.Pq
open Go.Proofs.Tryz
end Go.Ab.Pq
namespace Go.Ab.Pq
open Go.Proofs.Tryz
structure COk (k:Nat) (c:CV):Prop where
 odds:c.odds.es.length<=40
 nsh:c.nodes.sh=some 3\/c.nodes.es=[]
 nlen:c.nodes.es.length<=120
 ws:LOk k c.ws
 wlen:c.ws.es.length<=120
theorem COk.fr{k:Nat}{c:CV}(h:COk k c):COk k c.fr:=⟨h.odds,h.nsh,h.nlen,h.ws.fr',h.wlen⟩
end Go.Ab.Pq
namespace Go.Ab.Pq
open Go.Proofs.Tryz
def pB(n:Nat):NV:=⟨false,mG n,aB n⟩
theorem Eb(n:Nat):(pB n).fr=pB n:=by
 unfold pB NV.fr mG;split<;>rfl
theorem Iq{n:Nat}(h:n<9223372036854775808):AP aa 168 [.I (n:Int)]=some (pB n).av:=by
 refine (cK _ _ (bT (pB n)) (lp _) (m:=[]) ?_).trans (by rw[Eb]);rw[UF,D6,O,rA,vn Z,O,cX,CD Z];rfl
theorem VE{a b:Nat}(ha:a<9223372036854775808)(hb:b<9223372036854775808)(h0:b≠0):∃r:RV,AP aa 128 [.I (a:Int),.I (b:Int)]=some (.tup [r.av,.I 0])/\Can r (cL false a b)/\r.fr=r:=by
 have la:(aB a).length<=2:=kE Z;have lb:(aB b).length<=2:=kE Z;have va:(pB a).v=a:=fB a;have vb:(pB b).v=b:=fB b
 rcases Ip (x:=pB a) (y:=pB b) false (qA Z) (qA Z) with ⟨h,_⟩|⟨_,r,e,h2,h3⟩
 .rw[vb] at h;exact absurd h h0
 .rw[va,vb] at h2;refine ⟨r,(cK _ _ (vA r (iR .i64 0)) rfl (m:=[cR r]) ?_).trans (by rw[h3]),h2,h3⟩;rw[Ui,D6,O,D6,O,dc,O];simp only[Lh,cZ,bq,bX];rw[cX,Iq ha,aP,O,cX,Iq hb,aP,O,dh,Eb,Eb,show (false != false)=false from rfl,e,aP,O,c6,O,c7,O,c8,O,cY,O]
def RowOk(l:IL):Prop:=l.ns.length<=64/\(∀o∈l.ns,0<=o/\o<=1000)/\l.ns.sum≠0
theorem E5:∀{l:List Int},(∀o∈l,0<=o/\o<=1000)->0<=l.sum/\l.sum<=1000*(l.length:Int)
 | [],_=>aq
 | a::l,h=>by
  obtain ⟨h1,h2⟩:=h a cF;obtain ⟨h3,h4⟩:=E5 (fun o ho=>h o (cP _ ho));rw[jC,a8];omega
theorem RowOk.sum{l:IL}(h:RowOk l):∃S:Nat,l.ns.sum=(S:Int)/\S≠0/\S<=64000:=by
 obtain ⟨h1,h2⟩:=E5 h.2.1;obtain ⟨S,hS⟩:=jO h1;have:=h.1;exact ⟨S,hS,fun e=>h.2.2 (by rw[hS,e];rfl),Z⟩
theorem RowOk.get{l:IL}(h:RowOk l){i:Nat}(hi:i<l.ns.length):∃a:Nat,l.ns[i]=(a:Int)/\a<=1000:=by
 obtain ⟨h1,h2⟩:=h.2.1 _ (bp hi);obtain ⟨a,ha⟩:=jO h1;exact ⟨a,ha,Z⟩
def partQ(l:IL)(i:Nat):Rat:=cL false (l.ns.getD i 0).toNat l.ns.sum.toNat
theorem LC{l:IL}{i a S:Nat}(hi:i<l.ns.length)(ha:l.ns[i]=(a:Int))(hS:l.ns.sum=(S:Int)):partQ l i=cL false a S:=by
 unfold partQ;rw[aK,bn hi,hS];show cL false (l.ns[i]).toNat _=_;rw[ha];rfl
theorem partQ_bd{l:IL}(h:RowOk l){i:Nat}(hi:i<l.ns.length):Bd 1 (partQ l i):=by
 obtain ⟨S,hS,_,hS2⟩:=h.sum;obtain ⟨a,ha,ha2⟩:=h.get hi;rw[LC hi ha hS];exact wG (kE Z) (kE Z) Z
theorem qdH{l:List Int}{i:Nat}(hi:i<l.length):(l.take (i+1)).sum=(l.take i).sum+l[i]:=by
 rw[kC hi,List.sum_append];simp
theorem qdF{l:IL}(h:RowOk l)(i:Nat):0<=(l.ns.take i).sum/\(l.ns.take i).sum<=64000:=by
 obtain ⟨h1,h2⟩:=E5 (l:=l.ns.take i) (fun o ho=>h.2.1 o (yi ho));have:=h.1;rw[iu] at h2;omega
theorem IW{l:IL}(h:RowOk l)(x1 x4:AV)(m:af)(K:KT):∀j i:Nat,i+j=l.ns.length ->
  xX l.av x1 x4 (.I (l.ns.take i).sum) l.av (.I l.ns.length) (.I i) m K=K (.exit 0) (Co l.av x1 x4 (.I l.ns.sum) m)
 | 0,i,hij=>by
  rw[G1,bS,O,az,ag Z,iv Z]
 | j+1,i,hij=>by
  have hi:i<l.ns.length:=Z;have:=h.1;obtain ⟨b1,b2⟩:=qdF h i;obtain ⟨a,ha,ha2⟩:=h.get hi;have ih:=IW h x1 x4 m K j (i+1) Z;rw[qdH hi] at ih;rw[G1,bS,O,az,ai hi,te hi,O,th,O,iY,gz Z Z,O,b6 Z,O,ih]
theorem qcl{m:af}{d:Option Nat}{g:Nat}(a b:Int):aF (AP aa) d m g [.I a,.I b]=(AP aa g [.I a,.I b]).map fun v=>(v,m):=eC (ft _ a) (ft _ b)
theorem V70{l:IL}(h:RowOk l){i:Nat}(hi:i<l.ns.length):∃r:RV,AP aa 70 [l.av,.I (i:Int)]=some r.av/\Can r (partQ l i)/\r.fr=r:=by
 obtain ⟨S,hS,hS0,hS2⟩:=h.sum;obtain ⟨a,ha,ha2⟩:=h.get hi;obtain ⟨r,e1,e2,e3⟩:=VE (a:=a) (b:=S) Z Z hS0;refine ⟨r,(cK _ _ (gQ r) (jv _) (m:=[cR r,cR r]) ?_).trans (by rw[e3]),by rw[LC hi ha hS];exact e2,e3⟩;have hW:=IW h (.I (i:Int)) (.ptr 0 0) [cR zR] (Bw (aD f70)) l.ns.length 0 Z;rw[Vd,rF,O];refine (show _=_ from hW).trans ?_;rw[Su,te hi,O,th,O,ha,hS,qcl,e1,aP,O,c6,O,c7,O];simp only[Lh,cZ,bq,bX,a8,cc,bj];rw[dj,O,df,O,c8,O,cY,O]
structure NodeOk (l:IL) (ws:LV) (n:ND):Prop where
 row:RowOk l
 len:n.kids.ns.length=l.ns.length
 kids:∀k∈n.kids.ns,0<=k/\k<ws.es.length
theorem NodeOk.kid{l:IL}{ws:LV}{n:ND}(h:NodeOk l ws n){i:Nat}(hi:i<n.kids.ns.length):∃k:Nat,n.kids.ns[i]=(k:Int)/\k<ws.es.length/\n.kids.ns.getD i 0=(k:Int):=by
 obtain ⟨h1,h2⟩:=h.kids _ (bp hi);obtain ⟨k,hk⟩:=jO h1;refine ⟨k,hk,Z,?_⟩;rw[aK,bn hi];exact hk
def sT(odds:OL)(ws:LV)(n:ND):Prop:=n.var<0\/∃(v:Nat) (hv:v<odds.es.length),n.var=(v:Int)/\NodeOk odds.es[v] ws n
end Go.Ab.Pq
namespace Go.Ab
open Go.Proofs Go.Proofs.Tryz
structure WV (M:Nat) (r:RV) (N:Nat):Prop where
 ok:ROk 9 r
 q:r.q=cL false N M
 fr:r.fr=r
theorem qcA{M a b:Nat}(hM:M≠0):cL false a M+cL false b M=cL false (a+b) M:=by
 rw[Ai hM hM]
 have e:eR false (a*M)+eR false (b*M)=((a+b:Nat):Int)*(M:Int):=by
  simp only[eR,iE,jJ];rw[<- nU,<- Int.natCast_add,<- eW]
 rw[e,cL];have:=Rat.mkRat_mul_right (a:=M) (n:=((a+b:Nat):Int)) (d:=M) hM;rw[this];simp[eR]
theorem Ma{n d a:Nat}(ha:a≠0):cL false (n*a) (d*a)=cL false n d:=by
 have:=Rat.mkRat_mul_right (a:=a) (n:=((n:Nat):Int)) (d:=d) ha;rw[cL,cL];simp only[eR,iE,jJ,nU];exact this
theorem Zp{M N:Nat}(hM:M<4294967296^8)(hN:N<=M):Bd 8 (cL false N M):=wG (kE Z) (kE Z) Z
theorem Can.wv{M N:Nat}{r:RV}(hM:M<4294967296^8)(hN:N<=M)(h:Can r (cL false N M))(hf:r.fr=r):WV M r N:=⟨(h.ok (Zp hM hN) (by omega)).mono Z,h.q,hf⟩
theorem WV.mul{M N a S:Nat}{r p:RV}(hM:M<4294967296^8)(h:WV M r (N*S))(hS:S≠0)(hp:Can p (cL false a S))(hpk:ROk 9 p)(hb:N*a<=M):∃x:RV,AP aa 69 [r.av,p.av]=some x.av/\WV M x (N*a):=by
 obtain ⟨x,e,hc,hf⟩:=V4 h.ok hpk Z Z;refine ⟨x,e,Can.wv hM hb ?_ hf⟩;rw[h.q,hp.q,L8] at hc;have e1:N*S*a=N*a*S:=by rw[cn,bU S a,<- cn]
 rw[show (false != false)=false from rfl,e1,Ma hS] at hc;exact hc
theorem WV.add{M N1 N2:Nat}{r1 r2:RV}(hM:M<4294967296^8)(h0:M≠0)(h1:WV M r1 N1)(h2:WV M r2 N2)(hb:N1+N2<=M):∃x:RV,AP aa 71 [r1.av,r2.av]=some x.av/\WV M x (N1+N2):=by
 obtain ⟨x,e,hc,hf⟩:=V5 h1.ok h2.ok Z Z;rw[h1.q,h2.q,qcA h0] at hc;exact ⟨x,e,Can.wv hM hb hc hf⟩
theorem Nn(M:Nat):WV M zR 0:=⟨⟨⟨by simp[zR,gy,Dg],by simp[zR,gy],fun _=>rfl⟩,⟨by simp[zR,gy,Dg],by simp[zR,gy],fun _=>rfl⟩,by simp[zR,gy],by simp[zR,gy]⟩,by rw[EC];exact wa _ _,rfl⟩
theorem qcB{M:Nat}(h0:M≠0):cL false M M=1:=by
 have:=Ma (n:=1) (d:=1) h0;rw[jP] at this;rw[this];rfl
theorem qee{M:Nat}(hM:M<4294967296^8)(h0:M≠0):WV M iU M:=Can.wv hM (aI _) (by rw[qcB h0];exact ZH) rfl
def dm(E:List (Int×RV)):List (AV×AV):=E.map fun p=>(.I p.1,p.2.av)
def lk:List (Int×RV)->Int->Option RV
 | [],_=>none
 | p::E,k=>if p.1=k then some p.2 else lk E k
def pm(E:List (Int×RV))(k:Int)(r:RV):List (Int×RV):=match lk E k with
 | some _=>E.map fun p=>if p.1=k then (p.1,r) else p
 | none=>E++[(k,r)]
theorem Kq(a k:Int):fF (.I a) (.I k)=decide (a=k):=by simp[fF,nA]
theorem C8(k:Int):∀E:List (Int×RV),(dm E).find? (fun p=>fF p.1 (.I k))=(lk E k).map fun r=>(.I k,r.av)
 | []=>rfl
 | p::E=>by
  rw[dm,cU,List.find?_cons,Kq,lk]
  by_cases h:p.1=k
  .rw[eT h,ai h,h];rfl
  .rw[eX h,ag h];exact C8 k E
theorem Ks{k:Int}(h:-1000000000000<=k/\k<=1000000000000):gK (.int .i64) (.I k)=true:=by
 have h1:IntKind.min .i64<=k:=by show (-9223372036854775808:Int)<=k;omega
 have h2:k<=IntKind.max .i64:=by show k<=9223372036854775807;omega
 simp only[gK,jV,wu,eT h1,eT h2,decide_true,kP]
theorem DR{m:af}{p:Nat}{E:List (Int×RV)}{k:Int}(hp:m.get p=some (.mp (.int .i64) (dm E)))(hk:-1000000000000<=k/\k<=1000000000000):i6 (.int .i64) zR.av m (.mref p) (.I k)=some (((lk E k).getD zR).av,(lk E k).isSome):=by
 have h1:gR m (.int .i64) (.mref p)=some (p,dm E):=by simp[gR,hp]
 unfold i6;rw[h1,O,ai (Ks hk),qu,C8];cases lk E k<;>rfl
theorem Ff{m:af}{p:Nat}{E:List (Int×RV)}{k:Int}(hp:m.get p=some (.mp (.int .i64) (dm E)))(hk:-1000000000000<=k/\k<=1000000000000)(hl:E.length<=1000000000)(r:RV):gM (.int .i64) m (.mref p) (.I k) r.av=some (m.set p (some (.mp (.int .i64) (dm (pm E k r))))):=by
 have h1:gR m (.int .i64) (.mref p)=some (p,dm E):=by simp[gR,hp]
 unfold gM;rw[h1,O,ai ⟨Ks hk,rfl,by rw[dm,bA];unfold maxLen;omega⟩];have hf:=C8 k E;congr 5;unfold i8 pm
 cases hq:lk E k with
 | none=>
  rw[hq,Option.map_none,List.find?_eq_none] at hf;have:(dm E).any (fun p=>fF p.1 (.I k))=false:=by rw[List.any_eq_false];exact hf
  rw[this];simp[dm]
 | some r0=>
  rw[hq] at hf
  have:(dm E).any (fun p=>fF p.1 (.I k))=true:=by
   rw[List.any_eq_true];exact ⟨_,List.mem_of_find?_eq_some hf,List.find?_some (p:=fun p:AV×AV=>fF p.1 (.I k)) hf⟩
  rw[this];simp only[dm,pX];refine List.map_congr_left fun p hp=>?_;simp only[Function.comp];rw[Kq]
  by_cases h:p.1=k
  .rw[eT h,ai rfl,ai h]
  .rw[eX h,ag aq,ag h]
theorem LT(E:List (Int×RV))(k:Int)(r:RV):(pm E k r).length<=E.length+1:=by
 unfold pm;split<;>simp
theorem KO(k k':Int)(r:RV):∀E:List (Int×RV),lk (E++[(k,r)]) k'=match lk E k' with|some x=>some x|none=>if k=k' then some r else none
 | []=>rfl
 | p::E=>by
  rw[cc,lk,lk]
  by_cases h:p.1=k'
  .rw[ai h,ai h]
  .rw[ag h,ag h,KO k k' r E]
theorem KP(k k':Int)(r:RV):∀E:List (Int×RV),lk (E.map fun p=>if p.1=k then (p.1,r) else p) k'=if k=k' then (lk E k').map fun _=>r else lk E k'
 | []=>by simp[lk]
 | p::E=>by
  rw[cU,lk,KP k k' r E,lk]
  by_cases h:p.1=k
  .subst h;rw[ai rfl]
   by_cases h2:p.1=k'
   .rw[ai h2,ai h2,ai h2];rfl
   .simp[h2]
  .rw[ag h]
   by_cases h2:p.1=k'
   .subst h2;have h3:¬ k=p.1:=fun e=>h e.symm;rw[ai rfl,ag h3];simp
   .simp[h2]
theorem KQ(E:List (Int×RV))(k k':Int)(r:RV):lk (pm E k r) k'=if k=k' then some r else lk E k':=by
 unfold pm
 cases hq:lk E k with
 | none=>
  simp only[KO]
  by_cases h:k=k'
  .subst h;rw[hq]
  .rw[ag h,ag h];cases lk E k'<;>rfl
 | some x=>
  simp only[KP]
  by_cases h:k=k'
  .subst h;rw[ai rfl,ai rfl,hq];rfl
  .rw[ag h,ag h]
def p7(M:Nat)(E:List (Int×RV))(T:Nat->Nat):Prop:=∀j:Nat,WV M ((lk E j).getD zR) (T j)
theorem p7.put{M:Nat}{E:List (Int×RV)}{T:Nat->Nat}(h:p7 M E T){k N:Nat}{r:RV}(hr:WV M r N):p7 M (pm E k r) (upd T k N):=fun j=>by
 rw[KQ];unfold upd
 by_cases hj:j=k
 .subst hj;rw[ai rfl,ai rfl];exact hr
 .rw[ag Z,ag hj];exact h j
theorem vH{m:af}{k:Nat}{r:RV}(h:m.get k=some (.B [.bool r.neg,r.num.av,r.den.av])):am (some 3) m (.ptr k 0)=some r.av:=by
 rw[cS,h];rfl
theorem Au{m:af}{k:Nat}{c1 c2 c3:AV}{r:RV}(h:m.get k=some (.B [c1,c2,c3])):aM (some 3) m (.ptr k 0) r.av=some (m.set k (some (.B [.bool r.neg,r.num.av,r.den.av]))):=by
 rw[oA,h];rfl
section
variable {s:Nat} {F:List Nat} {zs:Bool} {os:Own} {most:Int} {l:List ND} {ar:List Int}
def ab(ar:List Int)(l:List ND)(i:Nat):Int:=bY ar.length (l.getD i ⟨0,[],0⟩)
theorem NJ{m:af}(h:bB m s F (IA zs os ar) most l){pb:Nat}(hb:m.get pb=some (.B [.ptr s 0])){x y:Nat}(hx:x<l.length)(hy:y<l.length)(hal:ar.length<=16)(g:GoodL ar l):∃m',AC aa 67 [ni x,ni y,.ptr pb 0] m=some (.I (ab ar l x-ab ar l y),m')/\Fr m m' []:=by
 obtain ⟨m1,e1,f1⟩:=tU h hx;have h1:bB m1 s F (IA zs os ar) most l:=h.fr f1 (fun _ _ h=>by cases h);obtain ⟨m2,e2,f2⟩:=tU h1 hy;have hb1:m1.get pb=some (.B [.ptr s 0]):=by rw[f1.get pb (bo hb) aq];exact hb
 refine ⟨m2,?_,Fr.trans f1 f2 fun _ h=>by cases h⟩
 have bnd:∀i (hi:i<l.length),-2<=bY ar.length l[i]/\bY ar.length l[i]<=16:=fun i hi=>by
  unfold bY
  split
  .have:=(g.var i hi (by omega)).1;omega
  .omega
 have b1:=bnd x hx;have b2:=bnd y hy;unfold ab;rw[fK hx,fK hy,Va,kw hb,O,O,e1,O];rw[qq (by rw[kw hb1];rfl),e2,O,mh,gz Z Z,O]
theorem ZO{m0:af}{nm:Nat}(h:bB m0 s F (IA zs os ar) most l)(hnF:nm∉F){pb:Nat}(hb:m0.get pb=some (.B [.ptr s 0]))(hne:pb≠nm)(hal:ar.length<=16)(g:GoodL ar l):lU m0 nm l.length (.ptr pb 0) (ab ar l):=fun m f x y hx hy=>
 NJ (h.fr f fun a ha hh=>hnF (by simpa [List.mem_singleton.1 hh] using ha)) (by rw[f.get pb (bo hb) (by simpa using hne)];exact hb) hx hy hal g
end
end Go.Ab
