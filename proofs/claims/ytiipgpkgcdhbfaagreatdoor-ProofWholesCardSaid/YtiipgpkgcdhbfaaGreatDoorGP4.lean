/- The reference's greatest common divisor and binary digits, in values. -/
import Derived.Test.YtiipgpkgcdhbfaaGreatDoorGP3
import Derived.Test.YtiipgpkgcdhbfaaGreatDoorGP1
import Derived.Test.YtiipgpkgcdhbfaaGreatDoorGP2
set_option maxRecDepth 100000
set_option linter.unusedVariables false
set_option linter.unusedSimpArgs false
set_option linter.unusedSectionVars false
namespace Go.Ab
open Go.Proofs.Tryz
theorem quB{tk:TK}{a:Nat}(h:a<4294967296):ag tk .quo (.int .u32 a) (.int .u32 2)=some (.int .u32 (a/2:Nat)):=by
 have e:ag tk .quo (.int .u32 a) (.int .u32 2)=some (.int .u32 (IntKind.wrap .u32 ((a:Int).tdiv 2))):=by cases tk<;>rfl
 have e2:(a:Int).tdiv 2=((a/2:Nat):Int):=rfl;rw[e,e2,By aa aa]
theorem qlg(K:KT)(m:ai):∀(r x n:Nat),x<2^r->r<=32->n+r<2^60->∃k,k<=n+r/\(0<n\/0<x->0<k)/\(n=0->x=0->k=0)/\HW (.I n) (.int .u32 x) m K=K (.exit 0) (Ns (.I k) m):=by
 intro r
 induction r with
 | zero=>
  intro x n hx hr hn;have:x=0:=by simpa using hx
  subst this;refine ⟨n,aa,aa,fun h _=>h,?_⟩;rw[TE,xh,ae,aC,an aa]
 | succ r ih=>
  intro x n hx hr hn;rw[TE,xh,ae,aC]
  by_cases h:x>0
  .have hp:2^(r+1)<=2^32:=qI aa hr;rw[aq h,bU aa,ae,quB aa,ae];rw[kh] at hx;obtain ⟨k,k1,k2,k3,k4⟩:=ih (x/2) (n+1) aa aa aa;exact ⟨k,aa,fun _=>k2 (.inl aa),aa,k4⟩
  .rw[an h];exact ⟨n,aa,aa,fun h _=>h,rfl⟩
theorem qkJ{x:NV}(hx:NOk x):∃k:Nat,AP af 136 [x.av]=some (.I k)/\(k=0↔x.v=0):=by
 have lx:=hx.v_len';have e1:=sw hx.fr;rw[show x.fr.v=x.v from rfl] at e1
 by_cases h0:x.v=0
 .refine ⟨0,iW (m:=[]) (v:=.I (0:Nat)) ?_ (gJ _ _ _) (by simp[jo]),by simp[h0]⟩;rw[Vk,cI (cX x),e1,aQ,ae,p9,ae,mN,ae,aC,aq (n5.2 h0)]
  rfl
 .have mI:¬ (aG x.v).length=0:=fun e=>h0 (n5.1 e);have me:=JE h0;have hd:=gM x.v ((aG x.v).length-1);obtain ⟨k,k1,k2,k3,k4⟩:=qlg (Mp (aH f136)) [] 32 ((aG x.v).getD ((aG x.v).length-1) 0) (32*((aG x.v).length-1)) aa aa aa
  have m32:∀a:Nat,a<2^41->ag .o .mul (.I 32) (.I a)=some (.I (32*a:Nat)):=by
   intro a ha;rw[xZ,iV aa aa];rfl
  have uX:=k2 (.inr (pR me));refine ⟨k,iW (m:=[]) (v:=.I (k:Nat)) ?_ (gJ _ _ _) (by simp[jo]),aa⟩;rw[Vk,cI (cX x),e1,aQ,ae,p9,ae,mN,ae,aC,an mI,ae,oT aa aa,ae,m32 _ aa,ae,ae,oT aa aa,ae,nk (by rw[kQ];omega),ae,lr,ae,kQ];refine k4.trans ?_;rw[qe2]
theorem Pf{a:Nat}(h:a%2=0):2*(a/2)=a:=aa
theorem Yg{a b:Nat}(ha:a%2=0)(hb:b%2=1):Nat.gcd (a/2) b=Nat.gcd a b:=by
 have hc:Nat.Coprime 2 b:=by
  rw[Nat.coprime_iff_gcd_eq_one,Nat.gcd_rec,hb]
  rfl
 have:=Nat.Coprime.gcd_mul_left_cancel (a/2) hc;rw[Pf ha] at this;exact this.symm
theorem J0{a:Nat}(h:(aG a).length<2^39):(aG (a/2)).length<2^39:=jQ (mb (B3 _ _)) h
theorem qla(K:KT)(m:ai):∀(n x y:Nat),y=n->x<18446744073709551616->y<18446744073709551616->HM (.U x) (.U y) m K=K (.exit 0) (Ni (.U (Nat.gcd x y:Nat)) m):=by
 intro n
 induction n using Nat.strongRecOn with
 | ind n ih=>
  intro x y hn hx hy;rw[qi8,qaX,ae,aC]
  by_cases h:y=0
  .rw[an (fun hh=>hh h),h,Nat.gcd_zero_right]
  .have hlt:x%y<y:=kV _ (pR h);rw[aq h,Du h hx,ae,ih (x%y) aa y (x%y) rfl hy aa,wa y,<- Nat.gcd_rec,wa]
theorem qk6(K:KT)(m:ai):∀(n a b t:Nat),a=n->0<a->0<b->0<t->(aG (a*t)).length<2^39->(aG a).length<2^39->(aG b).length<2^39->(aG t).length<2^39 ->
  ∃a' b' t',0<a'/\0<b'/\0<t'/\a'<=a/\b'<=b/\(a'%2=1\/b'%2=1)/\Nat.gcd a' b'*t'=Nat.gcd a b*t/\(aG t').length<2^39/\BJ (cc a).av (cc b).av (cc t).av m K=K (.exit 2) (IF (cc a').av (cc b').av (cc t').av m):=by
 intro n
 induction n using Nat.strongRecOn with
 | ind n ih=>
  intro a b t hn ha hb ht iC la lb lt;rw[qi4,cI (iY a),Ja (iu aa),fO,aQ,ae,aC]
  by_cases h1:a%2=0
  .rw[aq h1,cI (iY b),Ja (iu aa),fO,aQ,ae,aC]
   by_cases h2:b%2=0
   .have ea:=Pf h1;have eb:=Pf h2
    have e:a/2*(t+t)=a*t:=by
     rw[<- Nat.mul_two,<- fQ,Nat.mul_right_comm,dF (a/2) 2,ea]
    have ltt:(aG (t+t)).length<2^39:=by
     refine jQ (mb (b:=a*t) ?_) iC;rw[<- e];exact Nat.le_mul_of_pos_left _ aa
    obtain ⟨a',b',t',k1,k2,k3,k4,k5,k6,k7,k8,k9⟩:=ih (a/2) aa (a/2) (b/2) (t+t) rfl aa aa aa (by rw[e];exact iC) (J0 la) (J0 lb) ltt
    refine ⟨a',b',t',k1,k2,k3,aa,aa,k6,?_,k8,?_⟩
    .rw[k7]
     have:Nat.gcd a b=2*Nat.gcd (a/2) (b/2):=by
      conv=>lhs;rw[<- ea,<- eb]
      exact Nat.gcd_mul_left _ _ _
     rw[this,<- Nat.mul_two,<- fQ,Nat.mul_right_comm,dF _ 2]
    .rw[aq h2,cI (iY a),Jb (iu aa),fO,aQ,ae,cI (iY b),Jb (iu aa),fO,aQ,ae,fN (iY t) (iY t),VU (iu aa) (iu aa) (jM _) (jM _),fO,aQ,ae];exact k9
   .rw[an h2];exact ⟨a,b,t,ha,hb,ht,aR _,aR _,.inr aa,rfl,lt,rfl⟩
  .rw[an h1];exact ⟨a,b,t,ha,hb,ht,aR _,aR _,.inl aa,rfl,lt,rfl⟩
theorem qk8(K:KT)(m:ai)(xb xt:AV)(b:Nat):∀(n a:Nat),a=n->0<a->(a%2=1\/b%2=1)->(aG a).length<2^39 ->
  ∃a',0<a'/\a'<=a/\a'%2=1/\Nat.gcd a' b=Nat.gcd a b/\HK (cc a).av xb xt m K=K (.exit 6) (Ng (cc a').av xb xt m):=by
 intro n
 induction n using Nat.strongRecOn with
 | ind n ih=>
  intro a hn ha jc la;rw[qi6,cI (iY a),Ja (iu aa),fO,aQ,ae,aC]
  by_cases h1:a%2=0
  .have hb1:b%2=1:=aa;obtain ⟨a',k1,k2,k3,k4,k5⟩:=ih (a/2) aa (a/2) rfl aa (.inr hb1) (J0 la);rw[aq h1,cI (iY a),Jb (iu aa),fO,aQ,ae];exact ⟨a',k1,aa,k3,by rw[k4,Yg h1 hb1],k5⟩
  .rw[an h1];exact ⟨a,ha,aR _,aa,rfl,rfl⟩
theorem qk9(K:KT)(m:ai)(xa xt:AV)(a:Nat)(ha:a%2=1):∀(n b:Nat),b=n->0<b->(aG b).length<2^39 ->
  ∃b',0<b'/\b'<=b/\b'%2=1/\Nat.gcd a b'=Nat.gcd a b/\HL xa (cc b).av xt m K=K (.exit 8) (Nh xa (cc b').av xt m):=by
 intro n
 induction n using Nat.strongRecOn with
 | ind n ih=>
  intro b hn hb lb;rw[qi7,cI (iY b),Ja (iu aa),fO,aQ,ae,aC]
  by_cases h1:b%2=0
  .obtain ⟨b',k1,k2,k3,k4,k5⟩:=ih (b/2) aa (b/2) rfl aa (J0 lb);rw[aq h1,cI (iY b),Jb (iu aa),fO,aQ,ae];exact ⟨b',k1,aa,k3,by rw[k4,wa a,Yg h1 ha,wa],k5⟩
  .rw[an h1];exact ⟨b,hb,aR _,aa,rfl,rfl⟩
theorem qk7(K:KT)(m:ai)(xt:AV):∀(n a b:Nat),a+b=n->0<a->(a%2=1\/b%2=1)->(aG a).length<2^39->(aG b).length<2^39 ->
  DS (cc a).av (cc b).av xt m K=K (.exit 4) (Nf (cc (Nat.gcd a b)).av xt m):=by
 intro n
 induction n using Nat.strongRecOn with
 | ind n ih=>
  intro a b hn ha jc la lb;rw[qi5,p9,ae,xh,ae,aC]
  by_cases hb:b=0
  .rw[an (by rw[hb,mC];simp),hb,Nat.gcd_zero_right]
  .have pF:(aG b).length≠0:=fun e=>hb (n5.1 e);obtain ⟨a',k1,k2,k3,k4,k5⟩:=qk8 (Mh K) m (cc b).av xt b a a rfl ha jc la;obtain ⟨b',j1,j2,j3,j4,j5⟩:=qk9 (Mi K) m (cc a').av xt a' k3 b b rfl aa lb;have la':(aG a').length<2^39:=jQ (mb k2) la;have lb':(aG b').length<2^39:=jQ (mb j2) lb;rw[aq aa,k5,qd1,j5,qd5,fN (iY a') (iY b'),zW (iu aa) (iu aa),fO,fO,aQ,ae,gE,ae,aC];have hg:Nat.gcd a' b'=Nat.gcd a b:=by rw[j4,k4]
   by_cases wK:a'>b'
   .have hc:gZ a' b'>0:=by unfold gZ;rw[an aa,aq wK];omega
    rw[aq hc,fN (iY a') (iY b'),EA (iu aa) (iu aa) (jM _) (jM _),Dn,fO,fO,an aa,aQ,ae];simp only[a8];rw[show ([(cc (a'-b')).av,AV.I 0]:List AV)[0]?=some (cc (a'-b')).av from rfl,show ([(cc (a'-b')).av,AV.I 0]:List AV)[1]?=some (.I 0) from rfl,ae,ae];have lab:(aG (a'-b')).length<2^39:=jQ (mb (Nat.sub_le _ _)) la';rw[ih (b'+(a'-b')) aa b' (a'-b') rfl j1 (.inl j3) lb' lab]
    have:Nat.gcd b' (a'-b')=Nat.gcd a b:=by
     rw[<- hg,Nat.gcd_sub_self_right aa,wa]
    rw[this]
   .have hc:¬ gZ a' b'>0:=by unfold gZ;split<;>first|omega|(rw[an wK];omega)
    rw[an hc,fN (iY b') (iY a'),EA (iu aa) (iu aa) (jM _) (jM _),Dn,fO,fO,an aa,aQ,ae];simp only[a8];rw[show ([(cc (b'-a')).av,AV.I 0]:List AV)[0]?=some (cc (b'-a')).av from rfl,show ([(cc (b'-a')).av,AV.I 0]:List AV)[1]?=some (.I 0) from rfl,ae,ae];have lab:(aG (b'-a')).length<2^39:=jQ (mb (Nat.sub_le _ _)) lb';rw[ih (a'+(b'-a')) aa a' (b'-a') rfl k1 (.inl k3) la' lab]
    have:Nat.gcd a' (b'-a')=Nat.gcd a b:=by
     rw[<- hg,Nat.gcd_sub_self_right aa]
    rw[this]
theorem VC{x y:NV}(hx:NOk x)(hy:NOk y)(lx:(aG x.v).length<2^38)(ly:(aG y.v).length<2^38):AP af 119 [x.av,y.av]=some (cc (Nat.gcd x.v y.v)).av:=by
 have e1:=sw hx.fr;have e2:=sw hy.fr;rw[show x.fr.v=x.v from rfl] at e1;rw[show y.fr.v=y.v from rfl] at e2;have s1:=VH (iu (n:=x.v) aa);have s2:=VH (iu (n:=y.v) aa);rw[fO] at s1 s2
 have hx1:∀n,a8 (ui n) 1=some (.bool (decide (n<18446744073709551616))):=by
  intro n;unfold ui;split<;>(rename_i h;simp[a8,h])
 have hx0:∀n,∃k:Nat,a8 (ui n) 0=some (.U k)/\(n<18446744073709551616->k=n):=by
  intro n;unfold ui
  split
  .exact ⟨n,rfl,fun _=>rfl⟩
  .rename_i h;exact ⟨0,rfl,fun h'=>absurd h' h⟩
 obtain ⟨kx,CG,qqn⟩:=hx0 x.v;obtain ⟨ky,hky,qqo⟩:=hx0 y.v
 have big:∀{R:OM},R=((aM false (cc x.v).av).bind fun v9=>(ag .o .eql v9 (.I 0)).bind fun v10=>aB v10 (some ((cc y.v).av,[])) (
   (aM false (cc y.v).av).bind fun v11=>(ag .o .eql v11 (.I 0)).bind fun v12=>aB v12 (some ((cc x.v).av,[])) (
   (aF (AP af) none [] 72 [(.U 1)]).bind fun gB=>BJ (cc x.v).av (cc y.v).av gB.1 gB.2 (DJ (aH f119)))))->R=some ((cc (Nat.gcd x.v y.v)).av,[]):=by
  intro R hR;rw[hR,p9,ae,mN,ae,aC]
  by_cases h0:x.v=0
  .rw[aq (n5.2 h0),h0,Nat.gcd_zero_left]
  .rw[an (fun e=>h0 (n5.1 e)),p9,ae,mN,ae,aC]
   by_cases h1:y.v=0
   .rw[aq (n5.2 h1),h1,Nat.gcd_zero_right]
   .have h70:=Ez (n:=1) aa;have l1:(aG 1).length<2^39:=jQ (oN (k:=1) aa) aa;obtain ⟨a',b',t',k1,k2,k3,k4,k5,k6,k7,k8,k9⟩:=qk6 (DJ (aH f119)) [] x.v x.v y.v 1 rfl aa aa aa (by rw[mV];omega) aa aa l1;have la':(aG a').length<2^39:=jQ (mb k4) aa;have lb':(aG b').length<2^39:=jQ (mb k5) aa;have lg:(aG (Nat.gcd a' b')).length<2^39:=jQ (mb (Nat.gcd_le_left _ k1)) la';rw[an (fun e=>h1 (n5.1 e)),cI (gJ _ _),show AV.int .u64 1=.int .u64 ((1:Nat):Int) from rfl,h70,aQ,ae,k9,qdU,qk7 _ _ _ (a'+b') a' b' rfl k1 k6 la' lb',qdX,fN (iY _) (iY _),Cb (iu aa) (iu aa),fO,fO,k7,mV]
    rfl
 refine cw _ _ (iY _) (qC _) (m:=[]) ?_;rw[qjI,cI (cX x),e1,aQ,ae,cI (cX y),e2,aQ,ae,cI (iY _),s1,aQ,ae,CG,ae,hx1,ae,cI (iY _),s2,aQ,ae,hky,ae,hx1,ae,aC]
 by_cases c1:x.v<18446744073709551616
 .rw[aq c1,aC]
  by_cases c2:y.v<18446744073709551616
  .have uT:Nat.gcd x.v y.v<18446744073709551616:=by
    by_cases h0:x.v=0
    .rw[h0,Nat.gcd_zero_left];exact c2
    .exact jQ (Nat.gcd_le_left _ (pR h0)) c1
   rw[aq c2,qqn c1,qqo c2,qla _ _ y.v x.v y.v rfl c1 c2,qd9,cI (gJ _ _),Ez uT]
   rfl
  .rw[an c2];exact big rfl
 .rw[an c1];exact big rfl
end Go.Ab
namespace Go.Ab
def gg(neg:Bool)(n:Nat):Int:=if neg then -(n:Int) else n
def cT(neg:Bool)(n d:Nat):Rat:=mkRat (gg neg n) d
theorem Dj(neg:Bool)(n:Nat):(gg neg n).natAbs=n:=by cases neg<;>simp[gg]
theorem Bj(neg:Bool)(n:Nat):cT neg n 0=0:=by simp[cT,Rat.mkRat_zero]
theorem xq(neg:Bool)(d:Nat):cT neg 0 d=0:=by
 have:gg neg 0=0:=by cases neg<;>rfl
 rw[cT,this,Rat.zero_mkRat]
theorem Rv{neg:Bool}{n d:Nat}(hd:d≠0):(cT neg n d).num.natAbs=n/Nat.gcd n d:=by
 rw[cT,Rat.num_mkRat,an hd,Dj,wa]
 cases neg with
 | false=>rfl
 | true=>
  have Fm:((Nat.gcd n d:Nat):Int)∣(n:Int):=Int.natCast_dvd_natCast.2 (Nat.gcd_dvd_left _ _);show (-(n:Int)/((Nat.gcd n d:Nat):Int)).natAbs=_;rw[Int.neg_ediv_of_dvd Fm,Int.natAbs_neg]
  rfl
theorem Rw{neg:Bool}{n d:Nat}(hd:d≠0):(cT neg n d).den=d/Nat.gcd n d:=by
 rw[cT,Rat.den_mkRat,an hd,Dj,wa]
theorem qbN{neg:Bool}{n d:Nat}(hd:d≠0):decide ((cT neg n d).num<0)=(neg&&decide (n/Nat.gcd n d>0)):=by
 have Fm:((Nat.gcd n d:Nat):Int)∣(n:Int):=Int.natCast_dvd_natCast.2 (Nat.gcd_dvd_left _ _)
 have e:(cT neg n d).num=gg neg (n/Nat.gcd n d):=by
  rw[cT,Rat.num_mkRat,an hd,Dj,wa]
  cases neg with
  | false=>rfl
  | true=>
   show -(n:Int)/((Nat.gcd n d:Nat):Int)=_;rw[Int.neg_ediv_of_dvd Fm]
   rfl
 rw[e]
 cases neg with
 | false=>
  rw[iv];exact bD (Int.not_lt.2 (tb _))
 | true=>
  simp only[gg,bJ,dd];exact jm.2 aa
theorem qbL{neg:Bool}{n d:Nat}(hd:d≠0):cT neg n d=0↔n=0:=by
 rw[cT,Rat.mkRat_eq_zero hd];cases neg<;>simp[gg]
theorem Gn(s t:Bool)(n d k e:Nat):cT s n d*cT t k e=cT (s != t) (n*k) (d*e):=by
 rw[cT,cT,cT,Rat.mkRat_mul_mkRat];congr 1;cases s<;>cases t<;>simp[gg,ta,Int.neg_mul,Int.mul_neg]
theorem K3{s t:Bool}{n d k e:Nat}(hd:d≠0)(he:e≠0):cT s n d+cT t k e=mkRat (gg s (n*e)+gg t (k*d)) (d*e):=by
 rw[cT,cT,Rat.mkRat_add_mkRat _ _ hd he];congr 1;cases s<;>cases t<;>simp[gg,ta,Int.neg_mul]
theorem qcc{s:Bool}{x y:Nat}:gg s x+gg s y=gg s (x+y):=by cases s<;>simp[gg]<;>omega
theorem qb9{s t:Bool}{x y:Nat}(h:s≠t)(hxy:¬ x<y):gg s x+gg t y=gg s (x-y):=by
 cases s<;>cases t<;>simp[gg] at h ⊢<;>omega
theorem qca{s t:Bool}{x y:Nat}(h:s≠t)(hxy:x<y):gg s x+gg t y=gg t (y-x):=by
 cases s<;>cases t<;>simp[gg] at h ⊢<;>omega
structure RV where
 neg:Bool
 num:NV
 den:NV
def RV.av(r:RV):AV:=.agg [.bool r.neg,r.num.av,r.den.av]
def RV.fr(r:RV):RV:=⟨r.neg,r.num.fr,r.den.fr⟩
def RV.q(r:RV):Rat:=cT r.neg r.num.v r.den.v
structure ROk (k:Nat) (r:RV):Prop where
 num:NOk r.num
 den:NOk r.den
 ln:r.num.ds.length<=k
 ld:r.den.ds.length<=k
theorem ROk.fr{k:Nat}{r:RV}(h:ROk k r):ROk k r.fr:=⟨h.num.fr,h.den.fr,h.ln,h.ld⟩
theorem ROk.mono{k k':Nat}{r:RV}(h:ROk k r)(hk:k<=k'):ROk k' r:=⟨h.num,h.den,fC h.ln hk,fC h.ld hk⟩
theorem RV.fr_q(r:RV):r.fr.q=r.q:=rfl
theorem jv(r:RV):Fz r.av r.fr.av:=by
 intro m;have e:cq m kX r.av=(fU (cq m 8) [.bool r.neg,r.num.av,r.den.av]).map fun r=>(.agg r.1,r.2):=rfl;rw[e];simp[fU,Pz r.neg m 7,rK r.num m 7,rK r.den m 7,RV.fr,RV.av]
theorem lV(r:RV):jo r.av=true:=by simp[RV.av,jo,nr,NV.av]
structure Can (r:RV) (q:Rat):Prop where
 neg:r.neg=decide (q.num<0)
 num:r.num.ds=aG q.num.natAbs
 den:r.den.ds=aG q.den
 numz:r.num.z=true->r.num.ds=[]
 denz:r.den.z=true->r.den.ds=[]
theorem Can.q{r:RV}{q:Rat}(h:Can r q):r.q=q:=by
 rw[RV.q,NV.v,NV.v,h.num,h.den,gQ,gQ,h.neg,cT]
 have e:gg (decide (q.num<0)) q.num.natAbs=q.num:=by
  by_cases hq:q.num<0
  .simp[gg,hq];omega
  .simp[gg,hq];omega
 rw[e];exact Rat.mkRat_self q
def Bd(k:Nat)(q:Rat):Prop:=(aG q.num.natAbs).length<=k/\(aG q.den).length<=k
theorem Can.ok{r:RV}{q:Rat}{k:Nat}(h:Can r q)(hb:Bd k q)(hk:k<2^40):ROk k r:=by
 refine ⟨⟨by rw[h.num];exact gM _,by rw[h.num];exact jQ hb.1 hk,h.numz⟩,⟨by rw[h.den];exact gM _,by rw[h.den];exact jQ hb.2 hk,h.denz⟩,by rw[h.num];exact hb.1,by rw[h.den];exact hb.2⟩
theorem Can.den0{r:RV}{q:Rat}(h:Can r q):r.den.v≠0:=by
 rw[NV.v,h.den,gQ];exact q.den_nz
theorem pL{a b i j:Nat}(ha:(aG a).length<=i)(hb:(aG b).length<=j):(aG (a*b)).length<=i+j:=by
 refine oN ?_;have h1:=nX (gM a);have h2:=nX (gM b);rw[gQ] at h1 h2;have h3:4294967296^(aG a).length<=4294967296^i:=qI aa ha;have h4:4294967296^(aG b).length<=4294967296^j:=qI aa hb;rw[sr];exact Nat.mul_lt_mul'' aa aa
theorem QN{a b i:Nat}(ha:(aG a).length<=i)(hb:(aG b).length<=i):(aG (a+b)).length<=i+1:=by
 refine oN ?_;have h1:=nX (gM a);have h2:=nX (gM b);rw[gQ] at h1 h2;have h3:4294967296^(aG a).length<=4294967296^i:=qI aa ha;have h4:4294967296^(aG b).length<=4294967296^i:=qI aa hb;rw[kh];omega
theorem FZ:(aG 1).length<=1:=oN aa
theorem DE{neg:Bool}{n d k:Nat}(hn:(aG n).length<=k)(hd:(aG d).length<=k)(hk:1<=k):Bd k (cT neg n d):=by
 by_cases h0:d=0
 .subst h0;rw[Bj]
  refine ⟨?_,?_⟩
  .show (aG 0).length<=k;rw[mC];exact oJ _
  .show (aG 1).length<=k;exact fC FZ hk
 .refine ⟨?_,?_⟩
  .rw[Rv h0];exact fC (mb (B3 _ _)) hn
  .rw[Rw h0];exact fC (mb (B3 _ _)) hd
theorem Bd.mono{k k':Nat}{q:Rat}(h:Bd k q)(hk:k<=k'):Bd k' q:=⟨fC h.1 hk,fC h.2 hk⟩
theorem K4(q:Rat):cT (decide (q.num<0)) q.num.natAbs q.den=q:=by
 have e:gg (decide (q.num<0)) q.num.natAbs=q.num:=by
  by_cases hq:q.num<0
  .simp[gg,hq];omega
  .simp[gg,hq];omega
 rw[cT,e];exact Rat.mkRat_self q
theorem qdd{p q:Rat}{k l:Nat}(hp:Bd k p)(hq:Bd l q)(hk:1<=k):Bd (k+l) (p*q):=by
 rw[<- K4 p,<- K4 q,Gn];exact DE (pL hp.1 hq.1) (pL hp.2 hq.2) aa
theorem qrY(x:Int):∃s n,x=gg s n/\n=x.natAbs:=⟨decide (x<0),x.natAbs,by
 by_cases hq:x<0
 .simp[gg,hq];omega
 .simp[gg,hq];omega,rfl⟩
theorem Mb{p q:Rat}{k l:Nat}(hp:Bd k p)(hq:Bd l q)(hk:1<=k):Bd (k+l+1) (p+q):=by
 have h1:=pL hp.1 hq.2;have h2:=pL hq.1 hp.2;rw[<- K4 p,<- K4 q,K3 p.den_nz q.den_nz];obtain ⟨s,n,e1,e2⟩:=qrY (gg (decide (p.num<0)) (p.num.natAbs*q.den)+gg (decide (q.num<0)) (q.num.natAbs*p.den))
 have hle:n<=p.num.natAbs*q.den+q.num.natAbs*p.den:=by
  rw[e2];refine fC (Int.natAbs_add_le _ _) ?_;rw[Dj,Dj];exact aR _
 have iZ:(aG (q.num.natAbs*p.den)).length<=k+l:=aa;have h3:=QN h1 iZ;rw[e1,<- cT];exact DE (fC (mb hle) h3) (fC (pL hp.2 hq.2) aa) aa
theorem zk{k:Nat}(hk:1<=k):Bd k 0:=⟨by show (aG 0).length<=k;rw[mC];exact oJ _,fC (by show (aG 1).length<=1;exact FZ) hk⟩
theorem BD{k:Nat}(hk:1<=k):Bd k 1:=⟨fC (by show (aG 1).length<=1;exact FZ) hk,fC (by show (aG 1).length<=1;exact FZ) hk⟩
theorem ROk.bd{k:Nat}{r:RV}(h:ROk k r)(hk:1<=k):Bd k r.q:=DE (fC h.num.v_len h.ln) (fC h.den.v_len h.ld) hk
def kE(r:RV):Bool:=qN r.num.ds&&(qN r.den.ds&&(decide (r.den.v≠0)&&(!(decide (r.num.v=0)&&r.neg)&&decide (Nat.gcd r.num.v r.den.v=1))))
theorem Xh{r:RV}{q:Rat}(h:Can r q):kE r=true:=by
 have hd:=h.den0;have e1:r.num.v=q.num.natAbs:=by rw[NV.v,h.num,gQ]
 have e2:r.den.v=q.den:=by rw[NV.v,h.den,gQ]
 simp only[kE,qN,cD,oM,zp,Bool.and_eq_false_iff,decide_eq_false_iff_not]
 refine ⟨?_,?_,hd,?_,?_⟩
 .rw[h.num,gQ]
 .rw[h.den,gQ]
 .by_cases h0:r.num.v=0
  .right;rw[h.neg];have:q.num=0:=aa;rw[this];rfl
  .exact .inl h0
 .rw[e1,e2];exact q.reduced
end Go.Ab
namespace Go.Ab
def cR(r:RV):Option Ent:=some (.B [.bool r.neg,r.num.av,r.den.av])
def iQ:NV:=⟨true,.full,[]⟩
def zR:RV:=⟨false,iQ,iQ⟩
theorem dh(m:ai)(r:RV):dp none (some 3) m r.av=some (.ptr m.length 0,m++[cR r]):=rfl
theorem dS(m:ai):az none m (.B [.bool false,iQ.av,iQ.av])=(m.length,m++[cR zR]):=rfl
theorem cr(m:ai):az none m .resv=(m.length,m++[some .resv]):=rfl
theorem eR(m:ai)(n:Nat):az (some n) m (.B [.bool false,iQ.av,iQ.av])=(n,m.set n (cR zR)):=rfl
theorem eQ(m:ai)(n:Nat):az (some n) m .resv=(n,m.set n (some .resv)):=rfl
theorem cG(n:Nat):aL 0 (.ptr n 0)=some (.ptr n 0):=rfl
theorem cF(n:Nat):aL 1 (.ptr n 0)=some (.ptr n 1):=rfl
theorem cH(n:Nat):aL 2 (.ptr n 0)=some (.ptr n 2):=rfl
theorem dM(m:ai):bV m 1=m++[some .resv]:=rfl
theorem eU(m:ai):bV m 2=m++[some .resv,some .resv]:=rfl
theorem eu{M:ai}{r:RV}:aj none (cR r::M) (.ptr 0 0)=some (.bool r.neg):=rfl
theorem ez{M:ai}{r:RV}:aj none (cR r::M) (.ptr 0 1)=some (r.num.av):=rfl
theorem eo{M:ai}{r:RV}:aj none (cR r::M) (.ptr 0 2)=some (r.den.av):=rfl
theorem dE{M:ai}{r:RV}:aj (some 3) (cR r::M) (.ptr 0 0)=some r.av:=rfl
theorem dC{M:ai}{r r':RV}:aP (some 3) (cR r::M) (.ptr 0 0) r'.av=some (cR r'::M):=rfl
theorem eW{M:ai}{r:RV}{b:Bool}:aP none (cR r::M) (.ptr 0 0) (.bool b)=some (cR ⟨b,r.num,r.den⟩::M):=rfl
theorem eD{c0:Option Ent}{M:ai}{r:RV}:aj none (c0::cR r::M) (.ptr 1 0)=some (.bool r.neg):=rfl
theorem eE{c0:Option Ent}{M:ai}{r:RV}:aj none (c0::cR r::M) (.ptr 1 1)=some (r.num.av):=rfl
theorem eC{c0:Option Ent}{M:ai}{r:RV}:aj none (c0::cR r::M) (.ptr 1 2)=some (r.den.av):=rfl
theorem cY{c0:Option Ent}{M:ai}{r:RV}:aj (some 3) (c0::cR r::M) (.ptr 1 0)=some r.av:=rfl
theorem cZ{c0:Option Ent}{M:ai}{r r':RV}:aP (some 3) (c0::cR r::M) (.ptr 1 0) r'.av=some (c0::cR r'::M):=rfl
theorem eX{c0:Option Ent}{M:ai}{r:RV}{b:Bool}:aP none (c0::cR r::M) (.ptr 1 0) (.bool b)=some (c0::cR ⟨b,r.num,r.den⟩::M):=rfl
theorem eG{c0 c1:Option Ent}{M:ai}{r:RV}:aj none (c0::c1::cR r::M) (.ptr 2 0)=some (.bool r.neg):=rfl
theorem eH{c0 c1:Option Ent}{M:ai}{r:RV}:aj none (c0::c1::cR r::M) (.ptr 2 1)=some (r.num.av):=rfl
theorem eF{c0 c1:Option Ent}{M:ai}{r:RV}:aj none (c0::c1::cR r::M) (.ptr 2 2)=some (r.den.av):=rfl
theorem dK{c0 c1:Option Ent}{M:ai}{r:RV}:aj (some 3) (c0::c1::cR r::M) (.ptr 2 0)=some r.av:=rfl
theorem dN{c0 c1:Option Ent}{M:ai}{r r':RV}:aP (some 3) (c0::c1::cR r::M) (.ptr 2 0) r'.av=some (c0::c1::cR r'::M):=rfl
theorem eY{c0 c1:Option Ent}{M:ai}{r:RV}{b:Bool}:aP none (c0::c1::cR r::M) (.ptr 2 0) (.bool b)=some (c0::c1::cR ⟨b,r.num,r.den⟩::M):=rfl
theorem eK{c0 c1 c2:Option Ent}{M:ai}{r:RV}:aj none (c0::c1::c2::cR r::M) (.ptr 3 0)=some (.bool r.neg):=rfl
theorem eL{c0 c1 c2:Option Ent}{M:ai}{r:RV}:aj none (c0::c1::c2::cR r::M) (.ptr 3 1)=some (r.num.av):=rfl
theorem eJ{c0 c1 c2:Option Ent}{M:ai}{r:RV}:aj none (c0::c1::c2::cR r::M) (.ptr 3 2)=some (r.den.av):=rfl
theorem eI{c0 c1 c2:Option Ent}{M:ai}{r:RV}:aj (some 3) (c0::c1::c2::cR r::M) (.ptr 3 0)=some r.av:=rfl
theorem eZ{c0 c1 c2:Option Ent}{M:ai}{r r':RV}:aP (some 3) (c0::c1::c2::cR r::M) (.ptr 3 0) r'.av=some (c0::c1::c2::cR r'::M):=rfl
theorem fc{c0 c1 c2:Option Ent}{M:ai}{r:RV}{b:Bool}:aP none (c0::c1::c2::cR r::M) (.ptr 3 0) (.bool b)=some (c0::c1::c2::cR ⟨b,r.num,r.den⟩::M):=rfl
theorem eO{c0 c1 c2 c3:Option Ent}{M:ai}{r:RV}:aj none (c0::c1::c2::c3::cR r::M) (.ptr 4 0)=some (.bool r.neg):=rfl
theorem eP{c0 c1 c2 c3:Option Ent}{M:ai}{r:RV}:aj none (c0::c1::c2::c3::cR r::M) (.ptr 4 1)=some (r.num.av):=rfl
theorem eN{c0 c1 c2 c3:Option Ent}{M:ai}{r:RV}:aj none (c0::c1::c2::c3::cR r::M) (.ptr 4 2)=some (r.den.av):=rfl
theorem eM{c0 c1 c2 c3:Option Ent}{M:ai}{r:RV}:aj (some 3) (c0::c1::c2::c3::cR r::M) (.ptr 4 0)=some r.av:=rfl
theorem fe{c0 c1 c2 c3:Option Ent}{M:ai}{r r':RV}:aP (some 3) (c0::c1::c2::c3::cR r::M) (.ptr 4 0) r'.av=some (c0::c1::c2::c3::cR r'::M):=rfl
theorem ff{c0 c1 c2 c3:Option Ent}{M:ai}{r:RV}{b:Bool}:aP none (c0::c1::c2::c3::cR r::M) (.ptr 4 0) (.bool b)=some (c0::c1::c2::c3::cR ⟨b,r.num,r.den⟩::M):=rfl
theorem dj(a:AV)(l:List AV):a8 (.tup (a::l)) 0=some a:=rfl
theorem dk(a b:AV)(l:List AV):a8 (.tup (a::b::l)) 1=some b:=rfl
theorem dG(a b c:AV)(l:List AV):a8 (.tup (a::b::c::l)) 2=some c:=rfl
theorem dY:fR (.agg [.bool false,iQ.av,iQ.av]) []=some zR.av:=rfl
theorem eh(x:NV):fR (.agg [.bool false,iQ.av,iQ.av]) [(2,none,x.av)]=some (RV.av ⟨false,iQ,x⟩):=rfl
theorem ee(x y:NV):fR (.agg [.bool false,iQ.av,iQ.av]) [(1,none,x.av),(2,none,y.av)]=some (RV.av ⟨false,x,y⟩):=rfl
theorem dZ(b:Bool)(x y:NV):fR (.agg [.bool false,iQ.av,iQ.av]) [(0,none,.bool b),(1,none,x.av),(2,none,y.av)]=some (RV.av ⟨b,x,y⟩):=rfl
theorem dT:aD=iQ.av:=rfl
theorem cM(b:Bool):gH .not (.bool b)=some (.bool (!b)):=rfl
theorem dD(a b:Bool):ag .bl .neq (.bool a) (.bool b)=some (.bool (a != b)):=rfl
theorem dX(a b:Bool):ag .bl .eql (.bool a) (.bool b)=some (.bool (a==b)):=rfl
section
variable {cp:Nat->List AV->Option AV} {d:Option Nat} {m:ai} {g:Nat}
theorem eT(x:NV):aF cp d m g [x.av]=(cp g [x.fr.av]).map fun v=>(v,m):=cI (cX x)
theorem dr(k:IntKind)(n:Int):aF cp d m g [.int k n]=(cp g [.int k n]).map fun v=>(v,m):=cI (gJ k n)
theorem dI(x y:NV):aF cp d m g [x.av,y.av]=(cp g [x.fr.av,y.fr.av]).map fun v=>(v,m):=fN (cX x) (cX y)
theorem dL(b:Bool)(x y:NV):aF cp d m g [.bool b,x.av,y.av]=(cp g [.bool b,x.fr.av,y.fr.av]).map fun v=>(v,m):=Db (km b) (cX x) (cX y)
theorem dw(r:RV):aF cp d m g [r.av]=(cp g [r.fr.av]).map fun v=>(v,m):=cI (jv r)
theorem cO(r s:RV):aF cp d m g [r.av,s.av]=(cp g [r.fr.av,s.fr.av]).map fun v=>(v,m):=fN (jv r) (jv s)
theorem cS:aF cp d m g []=(cp g []).map fun v=>(v,m):=Rp
end
theorem X7(m:ai)(r:RV):cq m 8 r.av=some (r.fr.av,[]):=by
 have e:cq m 8 r.av=(fU (cq m 7) [.bool r.neg,r.num.av,r.den.av]).map fun r=>(.agg r.1,r.2):=rfl;rw[e];simp[fU,Pz r.neg m 6,rK r.num m 6,rK r.den m 6,RV.fr,RV.av]
theorem Cr(r:RV){b b':AV}(hb:∀m k,cq m (k+1) b=some (b',[])):Fz (.tup [r.av,b]) (.tup [r.fr.av,b']):=by
 intro m;show (fU (cq m 8) [r.av,b]).map _=_;simp[fU,X7,hb m 7]
end Go.Ab
namespace Go.Ab
structure LV where
 sh:Sh
 z:Bool
 o:Own
 es:List RV
def LV.av(l:LV):AV:=.lst l.sh l.z l.o (l.es.map RV.av)
def LV.fr(l:LV):LV:=⟨l.sh,l.z,l.o.fr,l.es⟩
structure LOk (k:Nat) (l:LV):Prop where
 sh:l.sh=some 3\/l.es=[]
 z:l.z=true->l.es=[]
 fr:∀r∈l.es,r.fr=r
 ok:∀r∈l.es,ROk k r
structure MV where
 rows:Int
 cols:Int
 lv:LV
def MV.av(x:MV):AV:=.agg [.I x.rows,.I x.cols,x.lv.av]
theorem LOk.fr'{k:Nat}{l:LV}(h:LOk k l):LOk k l.fr:=⟨h.sh,h.z,h.fr,h.ok⟩
theorem Pw(x:LV):Fz x.av x.fr.av:=fun m=>sD x.sh x.z x.o (x.es.map RV.av) m 8
theorem w8(l:LV):aM false l.av=some (.I l.es.length):=by simp[LV.av,aM]
theorem yL{l:LV}{k k':Nat}{kk:IntKind}(h:LOk k' l)(hk:k<l.es.length):aI (some 3) l.av (.int kk k)=some (.vptr (l.es[k].av).cells):=by
 have hs:l.sh=some 3:=h.sh.resolve_right (fun e=>by rw[e] at hk;simp at hk);simp[LV.av,aI,hs,hk]
theorem xd(m:ai)(r:RV):aj (some 3) m (.vptr r.av.cells)=some r.av:=rfl
theorem Xg{r:RV}(h:r.fr=r):df (some 3) [r.av]=some (.lst (some 3) false .full [r.av]):=by
 obtain ⟨n,⟨z1,o1,d1⟩,⟨z2,o2,d2⟩⟩:=r;simp only[RV.fr,NV.fr,RV.mk.injEq,NV.mk.injEq,true_and,and_true] at h;cases o1<;>cases o2<;>simp[Own.fr] at h<;>rfl
def qsa:LV:=⟨none,true,.full,[]⟩
theorem oW{m:ai}{n:Nat}{bx:Bool}{cs:List AV}(h:m[n]?=some (some (.obj bx cs))):m.obj? n=some (bx,cs):=by simp[ai.obj?,ai.get,h]
theorem nV{m:ai}{n:Nat}{x:RV}(h:m[n]?=some (cR x)):aj (some 3) m (.ptr n 0)=some x.av:=by
 simp[aj,oW h,kH,RV.av]
theorem qtf{m:ai}{n:Nat}{x:RV}(h:m[n]?=some (cR x)):aj none m (.ptr n 0)=some (.bool x.neg):=by simp[aj,oW h,kH]
theorem Lb{m:ai}{n:Nat}{x:RV}(h:m[n]?=some (cR x)):aj none m (.ptr n 1)=some x.num.av:=by simp[aj,oW h,kH]
theorem Ld{m:ai}{n:Nat}{x:RV}(h:m[n]?=some (cR x)):aj none m (.ptr n 2)=some x.den.av:=by simp[aj,oW h,kH]
theorem xy{m:ai}{n:Nat}{x y:RV}(h:m[n]?=some (cR x)):aP (some 3) m (.ptr n 0) y.av=some (m.set n (cR y)):=by
 simp only[aP,oW h,ae]
 rfl
theorem oP{m:ai}{e:Option Ent}:(m++[e])[m.length]?=some e:=aA
end Go.Ab
namespace Go.Ab
noncomputable section
variable (a0 a1 a2:AV) (m:ai)
open Go.Proofs.Tryz
theorem qjD:AC af 113 [a0,a1] m=(dp none (some 3) m a0).bind fun r1=>(dp none (some 3) r1.2 a1).bind fun r2=>(aj (some 3) r2.2 r1.1).bind fun v3=>(aj (some 3) r2.2 r2.1).bind fun v4=>(aF (AP af) none r2.2 153 [v3,v4]).bind fun r5=>(ag .o .eql r5.1 (.I 0)).bind fun v6=>some (v6,r5.2):=
(bm af 113 [a0,a1] m (fn:=f113) (c:=aE f113) qmf rfl).trans au
theorem Ew:AC af 71 [a0,a1] m=(dp none (some 3) m a0).bind fun r1=>(dp none (some 3) r1.2 a1).bind fun r2=>(aj (some 3) (az none r2.2 (.B [(.bool false),aD,aD])).2 r1.1).bind fun v3=>(aF (AP af) none (az none r2.2 (.B [(.bool false),aD,aD])).2 129 [v3]).bind fun r4=>(ag .o .eql r4.1 (.I 0)).bind fun v5=>aB v5 ((aL 0 r2.1).bind fun v6=>(aj none r4.2 v6).bind fun v7=>(aL 1 r2.1).bind fun v8=>(aj none r4.2 v8).bind fun v9=>(aL 2 r2.1).bind fun v10=>(aj none r4.2 v10).bind fun v11=>(aF (AP af) none r4.2 126 [v7,v9,v11]).bind fun jV=>(aP (some 3) jV.2 (.ptr (az none r2.2 .resv).1 0) jV.1).bind fun m13=>(aj (some 3) m13 (.ptr (az none r2.2 .resv).1 0)).bind fun bf=>some (bf,m13)) ((aj (some 3) r4.2 r2.1).bind fun bh=>(aF (AP af) none r4.2 129 [bh]).bind fun gW=>(ag .o .eql gW.1 (.I 0)).bind fun bH=>aB bH ((aL 0 r1.1).bind fun cV=>(aj none gW.2 cV).bind fun cP=>(aL 1 r1.1).bind fun v20=>(aj none gW.2 v20).bind fun v21=>(aL 2 r1.1).bind fun v22=>(aj none gW.2 v22).bind fun v23=>(aF (AP af) none gW.2 126 [cP,v21,v23]).bind fun lE=>(aP (some 3) lE.2 (.ptr (az none r2.2 .resv).1 0) lE.1).bind fun m25=>(aj (some 3) m25 (.ptr (az none r2.2 .resv).1 0)).bind fun v26=>some (v26,m25)) ((aL 1 r1.1).bind fun iR=>(aj none gW.2 iR).bind fun v28=>(aL 2 r2.1).bind fun jh=>(aj none gW.2 jh).bind fun v30=>(aF (AP af) (some gW.2.length) gW.2 127 [v28,v30]).bind fun rh=>(aL 1 r2.1).bind fun jN=>(aj none rh.2 jN).bind fun kR=>(aL 2 r1.1).bind fun nC=>(aj none rh.2 nC).bind fun kF=>(aF (AP af) (some gW.2.length) rh.2 127 [kR,kF]).bind fun vx=>(aL 2 r1.1).bind fun v37=>(aj none vx.2 v37).bind fun qe=>(aL 2 r2.1).bind fun rm=>(aj none vx.2 rm).bind fun v40=>(aF (AP af) (some gW.2.length) vx.2 127 [qe,v40]).bind fun pP=>(aL 0 r1.1).bind fun GI=>(aj none pP.2 GI).bind fun Bv=>(aL 0 r2.1).bind fun Sm=>(aj none pP.2 Sm).bind fun Bw=>(ag .bl .eql Bv Bw).bind fun v46=>aB v46 ((aL 0 r1.1).bind fun GJ=>(aj none pP.2 GJ).bind fun LK=>(aF (AP af) (some pP.2.length) pP.2 130 [rh.1,vx.1]).bind fun yX=>(aF (AP af) (some pP.2.length) yX.2 126 [LK,yX.1,pP.1]).bind fun r50=>(aP (some 3) r50.2 (.ptr (az none r2.2 .resv).1 0) r50.1).bind fun m51=>(aj (some 3) m51 (.ptr (az none r2.2 .resv).1 0)).bind fun Sp=>some (Sp,m51)) ((aF (AP af) none pP.2 131 [rh.1,vx.1]).bind fun Df=>(ag .o .lss Df.1 (.I 0)).bind fun Sq=>aB Sq ((aj (some 3) Df.2 r2.1).bind fun Sr=>(aP (some 3) Df.2 r1.1 Sr).bind fun m56=>(aF (AP af) none m56 132 [vx.1,rh.1]).bind fun yZ=>(a8 yZ.1 0).bind fun v58=>(a8 yZ.1 1).bind fun v59=>(aL 0 r1.1).bind fun Ss=>(aj none yZ.2 Ss).bind fun v61=>(aF (AP af) none yZ.2 126 [v61,v58,pP.1]).bind fun r62=>(aP (some 3) r62.2 (.ptr (az none r2.2 .resv).1 0) r62.1).bind fun m63=>(aj (some 3) m63 (.ptr (az none r2.2 .resv).1 0)).bind fun v64=>some (v64,m63)) ((aF (AP af) none Df.2 132 [rh.1,vx.1]).bind fun K6=>(a8 K6.1 0).bind fun v66=>(a8 K6.1 1).bind fun v67=>(aL 0 r1.1).bind fun v68=>(aj none K6.2 v68).bind fun v69=>(aF (AP af) none K6.2 126 [v69,v66,pP.1]).bind fun r70=>(aP (some 3) r70.2 (.ptr (az none r2.2 .resv).1 0) r70.1).bind fun m71=>(aj (some 3) m71 (.ptr (az none r2.2 .resv).1 0)).bind fun v72=>some (v72,m71))))):=
(bm af 71 [a0,a1] m (fn:=f71) (c:=aE f71) qnV rfl).trans au
theorem qjE:AC af 114 [] m=(aF (AP af) none (az none m (.B [(.bool false),aD,aD])).2 123 [(.U 1)]).bind fun r1=>(fR (.agg [(.bool false),aD,aD]) [(2,none,r1.1)]).bind fun v2=>(aP (some 3) r1.2 (.ptr (az none m .resv).1 0) v2).bind fun m3=>(aj (some 3) m3 (.ptr (az none m .resv).1 0)).bind fun v4=>some (v4,m3):=
(bm af 114 [] m (fn:=f114) (c:=aE f114) qmg rfl).trans au
theorem T64:AC af 64 [] m=(aF (AP af) none (az none m (.B [(.bool false),aD,aD])).2 123 [(.U 1)]).bind fun r1=>(aF (AP af) none r1.2 123 [(.U 1)]).bind fun r2=>(fR (.agg [(.bool false),aD,aD]) [(1,none,r1.1),(2,none,r2.1)]).bind fun v3=>(aP (some 3) r2.2 (.ptr (az none m .resv).1 0) v3).bind fun m4=>(aj (some 3) m4 (.ptr (az none m .resv).1 0)).bind fun v5=>some (v5,m4):=
(bm af 64 [] m (fn:=f64) (c:=aE f64) qnO rfl).trans au
theorem qj4:AC af 152 [a0] m=(dp none (some 3) m a0).bind fun r1=>(aL 1 r1.1).bind fun v2=>(aj none r1.2 v2).bind fun v3=>(aF (AP af) none r1.2 181 [v3]).bind fun r4=>(gH .not r4.1).bind fun v5=>aB v5 (some ((.bool false),r4.2)) ((aL 2 r1.1).bind fun v6=>(aj none r4.2 v6).bind fun v7=>(aF (AP af) none r4.2 181 [v7]).bind fun r8=>(gH .not r8.1).bind fun v9=>aB v9 (some ((.bool false),r8.2)) ((aL 2 r1.1).bind fun v10=>(aj none r8.2 v10).bind fun v11=>(aM false v11).bind fun v12=>(ag .o .eql v12 (.I 0)).bind fun bg=>aB bg (some ((.bool false),r8.2)) ((aL 1 r1.1).bind fun bf=>(aj none r8.2 bf).bind fun bh=>(aM false bh).bind fun bK=>(ag .o .eql bK (.I 0)).bind fun bH=>aB bH ((aL 0 r1.1).bind fun cV=>(aj none r8.2 cV).bind fun cP=>aB cP (some ((.bool false),r8.2)) ((aL 1 r1.1).bind fun v20=>(aj none r8.2 v20).bind fun v21=>(aL 2 r1.1).bind fun v22=>(aj none r8.2 v22).bind fun v23=>(aF (AP af) none r8.2 183 [v21,v23]).bind fun lE=>(aF (AP af) none lE.2 182 [lE.1]).bind fun kC=>(a8 kC.1 0).bind fun v26=>(a8 kC.1 1).bind fun iR=>aB iR ((ag .o .eql v26 (.U 1)).bind fun v28=>some (v28,kC.2)) (some ((.bool false),kC.2)))) ((aL 1 r1.1).bind fun jh=>(aj none r8.2 jh).bind fun v30=>(aL 2 r1.1).bind fun v31=>(aj none r8.2 v31).bind fun jN=>(aF (AP af) none r8.2 183 [v30,jN]).bind fun yW=>(aF (AP af) none yW.2 182 [yW.1]).bind fun vu=>(a8 vu.1 0).bind fun kF=>(a8 vu.1 1).bind fun se=>aB se ((ag .o .eql kF (.U 1)).bind fun v37=>some (v37,vu.2)) (some ((.bool false),vu.2)))))):=
(bm af 152 [a0] m (fn:=f152) (c:=aE f152) qmO rfl).trans au
theorem qj5:AC af 153 [a0,a1] m=(dp none (some 3) m a0).bind fun r1=>(dp none (some 3) r1.2 a1).bind fun r2=>(aj (some 3) r2.2 r1.1).bind fun v3=>(aF (AP af) (some r2.2.length) r2.2 129 [v3]).bind fun r4=>(aj (some 3) r4.2 r2.1).bind fun v5=>(aF (AP af) (some r2.2.length) r4.2 129 [v5]).bind fun r6=>(ag .o .lss r4.1 r6.1).bind fun v7=>aB v7 (some ((.I (-1)),r6.2)) ((ag .o .gtr r4.1 r6.1).bind fun v8=>aB v8 (some ((.I 1),r6.2)) ((aL 1 r1.1).bind fun v9=>(aj none r6.2 v9).bind fun v10=>(aL 2 r2.1).bind fun v11=>(aj none r6.2 v11).bind fun v12=>(aF (AP af) (some r6.2.length) r6.2 127 [v10,v12]).bind fun gB=>(aL 1 r2.1).bind fun bf=>(aj none gB.2 bf).bind fun bh=>(aL 2 r1.1).bind fun bK=>(aj none gB.2 bK).bind fun bH=>(aF (AP af) (some r6.2.length) gB.2 127 [bh,bH]).bind fun ij=>(aF (AP af) (some r6.2.length) ij.2 131 [gB.1,ij.1]).bind fun kP=>(ag .o .mul r4.1 kP.1).bind fun v20=>some (v20,kP.2))):=
(bm af 153 [a0,a1] m (fn:=f153) (c:=aE f153) qmP rfl).trans au
theorem T69:AC af 69 [a0,a1] m=(dp none (some 3) m a0).bind fun r1=>(dp none (some 3) r1.2 a1).bind fun r2=>(aL 0 r1.1).bind fun v3=>(aj none (az none r2.2 (.B [(.bool false),aD,aD])).2 v3).bind fun v4=>(aL 0 r2.1).bind fun v5=>(aj none (az none r2.2 (.B [(.bool false),aD,aD])).2 v5).bind fun v6=>(ag .bl .neq v4 v6).bind fun v7=>(aL 1 r1.1).bind fun v8=>(aj none (az none r2.2 (.B [(.bool false),aD,aD])).2 v8).bind fun v9=>(aL 1 r2.1).bind fun v10=>(aj none (az none r2.2 (.B [(.bool false),aD,aD])).2 v10).bind fun v11=>(aF (AP af) (some (az none r2.2 (.B [(.bool false),aD,aD])).2.length) (az none r2.2 (.B [(.bool false),aD,aD])).2 127 [v9,v11]).bind fun jV=>(aL 2 r1.1).bind fun bg=>(aj none jV.2 bg).bind fun bf=>(aL 2 r2.1).bind fun bh=>(aj none jV.2 bh).bind fun bK=>(aF (AP af) (some (az none r2.2 (.B [(.bool false),aD,aD])).2.length) jV.2 127 [bf,bK]).bind fun nw=>(aF (AP af) (some (az none r2.2 (.B [(.bool false),aD,aD])).2.length) nw.2 126 [v7,jV.1,nw.1]).bind fun ij=>(aP (some 3) ij.2 (.ptr (az none r2.2 .resv).1 0) ij.1).bind fun m19=>(aj (some 3) m19 (.ptr (az none r2.2 .resv).1 0)).bind fun v20=>some (v20,m19):=
(bm af 69 [a0,a1] m (fn:=f69) (c:=aE f69) qnT rfl).trans au
theorem qjR:AC af 129 [a0] m=(dp none (some 3) m a0).bind fun r1=>(aL 1 r1.1).bind fun v2=>(aj none r1.2 v2).bind fun v3=>(aF (AP af) none r1.2 131 [v3,aD]).bind fun r4=>(ag .o .eql r4.1 (.I 0)).bind fun v5=>aB v5 (some ((.I 0),r4.2)) ((aL 2 r1.1).bind fun v6=>(aj none r4.2 v6).bind fun v7=>(aF (AP af) none r4.2 131 [v7,aD]).bind fun r8=>(ag .o .eql r8.1 (.I 0)).bind fun v9=>aB v9 (some ((.I 0),r8.2)) ((aL 0 r1.1).bind fun v10=>(aj none r8.2 v10).bind fun v11=>aB v11 (some ((.I (-1)),r8.2)) (some ((.I 1),r8.2)))):=
(bm af 129 [a0] m (fn:=f129) (c:=aE f129) qmv rfl).trans au
theorem Vh:AC af 126 [a0,a1,a2] m=(aF (AP af) none (az none m (.B [(.bool false),aD,aD])).2 167 [a0,a1,a2]).bind fun r1=>(a8 r1.1 0).bind fun v2=>(a8 r1.1 1).bind fun v3=>(aP (some 3) (az none r1.2 (.B [(.bool false),aD,aD])).2 (.ptr (az none r1.2 .resv).1 0) v2).bind fun m4=>(ag .o .neq v3 (.I 0)).bind fun v5=>aB v5 ((aF (AP af) none m4 114 []).bind fun r6=>(aP (some 3) r6.2 (.ptr (az none m .resv).1 0) r6.1).bind fun m7=>(aj (some 3) m7 (.ptr (az none m .resv).1 0)).bind fun v8=>some (v8,m7)) ((aj (some 3) m4 (.ptr (az none r1.2 .resv).1 0)).bind fun v9=>(aP (some 3) m4 (.ptr (az none m .resv).1 0) v9).bind fun m10=>(aj (some 3) m10 (.ptr (az none m .resv).1 0)).bind fun v11=>some (v11,m10)):=
(bm af 126 [a0,a1,a2] m (fn:=f126) (c:=aE f126) qms rfl).trans au
theorem Vo:AC af 167 [a0,a1,a2] m=(aF (AP af) none (az none m (.B [(.bool false),aD,aD])).2 183 [a1,a2]).bind fun r1=>(aF (AP af) none r1.2 131 [a2,aD]).bind fun r2=>(ag .o .eql r2.1 (.I 0)).bind fun v3=>aB v3 ((fR (.agg [(.bool false),aD,aD]) []).bind fun v4=>(aP (some 3) r2.2 (.ptr (az none m .resv).1 0) v4).bind fun m5=>(aj (some 3) m5 (.ptr (az none m .resv).1 0)).bind fun v6=>some ((.tup [v6,(.I 31)]),m5)) ((aF (AP af) none r2.2 187 [a1,r1.1]).bind fun r7=>(a8 r7.1 0).bind fun v8=>(a8 r7.1 1).bind fun v9=>(a8 r7.1 2).bind fun v10=>(aF (AP af) none r7.2 187 [a2,r1.1]).bind fun jU=>(a8 jU.1 0).bind fun v12=>(a8 jU.1 1).bind fun bg=>(a8 jU.1 2).bind fun bf=>aB a0 ((aM false v8).bind fun bh=>(ag .o .gtr bh (.I 0)).bind fun bK=>(fR (.agg [(.bool false),aD,aD]) [(0,none,bK),(1,none,v8),(2,none,v12)]).bind fun bH=>(aP (some 3) jU.2 (.ptr (az none m .resv).1 0) bH).bind fun m18=>(aj (some 3) m18 (.ptr (az none m .resv).1 0)).bind fun cP=>some ((.tup [cP,(.I 0)]),m18)) ((fR (.agg [(.bool false),aD,aD]) [(0,none,(.bool false)),(1,none,v8),(2,none,v12)]).bind fun v20=>(aP (some 3) jU.2 (.ptr (az none m .resv).1 0) v20).bind fun m21=>(aj (some 3) m21 (.ptr (az none m .resv).1 0)).bind fun v22=>some ((.tup [v22,(.I 0)]),m21))):=
(bm af 167 [a0,a1,a2] m (fn:=f167) (c:=aE f167) qm3 rfl).trans au
theorem qkh:AC af 168 [a0] m=(ag .o .lss a0 (.I 0)).bind fun v1=>aB v1 ((bE .u64 a0).bind fun v2=>(gH .neg v2).bind fun v3=>(aF (AP af) none m 123 [v3]).bind fun r4=>some (r4.1,r4.2)) ((bE .u64 a0).bind fun v5=>(aF (AP af) none m 123 [v5]).bind fun r6=>some (r6.1,r6.2)):=
(bm af 168 [a0] m (fn:=f168) (c:=aE f168) qm4 rfl).trans au
theorem qjQ:AC af 128 [a0,a1] m=(ag .o .lss a0 (.I 0)).bind fun v1=>(ag .o .lss a1 (.I 0)).bind fun v2=>(ag .bl .neq v1 v2).bind fun v3=>(aF (AP af) none (az none m (.B [(.bool false),aD,aD])).2 168 [a0]).bind fun r4=>(aF (AP af) none r4.2 168 [a1]).bind fun r5=>(aF (AP af) none r5.2 167 [v3,r4.1,r5.1]).bind fun r6=>(a8 r6.1 0).bind fun v7=>(a8 r6.1 1).bind fun v8=>(aP (some 3) r6.2 (.ptr (az none m .resv).1 0) v7).bind fun m9=>(aj (some 3) m9 (.ptr (az none m .resv).1 0)).bind fun v10=>some ((.tup [v10,v8]),m9):=
(bm af 128 [a0,a1] m (fn:=f128) (c:=aE f128) qmu rfl).trans au
end
end Go.Ab
namespace Go.Ab
open Go.Proofs.Tryz
theorem Q7:NOk iQ:=⟨Ah,by simp[iQ],by simp[iQ]⟩
theorem Q8:iQ.v=0:=rfl
theorem qrG:(aG 1).length<2^40:=jQ FZ aa
def Be:NV:=⟨false,.no,aG 1⟩
theorem VD:AP af 123 [.U 1]=some Be.av:=OA (n:=1) aa
def rp:RV:=⟨false,iQ,Be⟩
def kO:RV:=⟨false,Be,Be⟩
theorem Ac:Can rp 0:=⟨rfl,mC.symm,rfl,fun _=>rfl,by simp[rp,Be]⟩
theorem Jy:Can kO 1:=⟨rfl,rfl,rfl,by simp[kO,Be],by simp[kO,Be]⟩
theorem Ey:AP af 114 []=some rp.av:=by
 refine cw _ _ (jv rp) (lV _) (m:=[cR rp]) ?_;rw[qjE];simp only[ae,aQ,dh,dS,cr,eR,eQ,cG,cF,cH,dM,eU,eu,ez,eo,dE,dC,eW,eD,eE,eC,cY,cZ,eX,eG,eH,eF,dK,dN,eY,eK,eL,eJ,eI,eZ,fc,eO,eP,eN,eM,fe,ff,dj,dk,dG,dY,eh,ee,dZ,dT,cM,dD,dX,ba,bo,aW,bF,b6,cu,bq,cW,dO,fg,eT,dr,dI,dL,dw,cO,cS,VD]
 rfl
theorem OE:AP af 64 []=some kO.av:=by
 refine cw _ _ (jv kO) (lV _) (m:=[cR kO]) ?_;rw[T64];simp only[ae,aQ,dh,dS,cr,eR,eQ,cG,cF,cH,dM,eU,eu,ez,eo,dE,dC,eW,eD,eE,eC,cY,cZ,eX,eG,eH,eF,dK,dN,eY,eK,eL,eJ,eI,eZ,fc,eO,eP,eN,eM,fe,ff,dj,dk,dG,dY,eh,ee,dZ,dT,cM,dD,dX,ba,bo,aW,bF,b6,cu,bq,cW,dO,fg,eT,dr,dI,dL,dw,cO,cS,VD]
 rfl
theorem Cj(n:Nat):(gZ n 0=0)↔n=0:=by unfold gZ;constructor<;>intro h<;>(repeat' split at *)<;>omega
theorem VK{x y:NV}(neg:Bool)(hx:NOk x)(hy:NOk y):(y.v=0/\AP af 167 [.bool neg,x.av,y.av]=some (.tup [zR.av,.I 31])) \/
  (y.v≠0/\∃r:RV,AP af 167 [.bool neg,x.av,y.av]=some (.tup [r.av,.I 0])/\Can r (cT neg x.v y.v)/\r.fr=r):=by
 have e1:=VP hx.fr hy.fr;have e2:=xU hy.fr Q7;have hg:=Ye hx.fr hy.fr;have hgf:(mE x.fr y.fr).fr=mE x.fr y.fr:=qpK _ _;have Ft:(mE x.fr y.fr).v=Nat.gcd x.v y.v:=Yf _ _;have e3:=OB hx.fr hg;have e4:=OB hy.fr hg;have nf:iQ.fr=iQ:=rfl;have w5:y.fr.v=y.v:=rfl;rw[Q8,w5] at e2
 by_cases h0:y.v=0
 .refine .inl ⟨h0,cw _ _ (Cr zR (kn _ _)) rfl (m:=[cR zR]) ?_⟩;rw[Vo];simp only[ae,aQ,dh,dS,cr,eR,eQ,cG,cF,cH,dM,eU,eu,ez,eo,dE,dC,eW,eD,eE,eC,cY,cZ,eX,eG,eH,eF,dK,dN,eY,eK,eL,eJ,eI,eZ,fc,eO,eP,eN,eM,fe,ff,dj,dk,dG,dY,eh,ee,dZ,dT,cM,dD,dX,ba,bo,aW,bF,b6,cu,bq,cW,dO,fg,eT,dr,dI,dL,dw,cO,cS,e1,nf,e2,iK,aC];rw[aq ((Cj _).2 h0)]
 .refine .inr ⟨h0,?_⟩
  have uU:Nat.gcd x.v y.v≠0:=by
   have:=Nat.gcd_pos_of_pos_right x.v (pR h0);omega
  have Fq:¬ (mE x.fr y.fr).v=0:=by rw[Ft];exact uU
  unfold JK at e3 e4;rw[an Fq] at e3 e4;have hq:(mD x.fr (mE x.fr y.fr)).ds=aG (x.v/Nat.gcd x.v y.v):=by rw[JH,Ft];rfl
  have hd:(mD y.fr (mE x.fr y.fr)).ds=aG (y.v/Nat.gcd x.v y.v):=by rw[JH,Ft];rfl
  refine ⟨⟨neg&&decide (x.v/Nat.gcd x.v y.v>0),mD x.fr (mE x.fr y.fr),mD y.fr (mE x.fr y.fr)⟩,?_,⟨(qbN h0).symm,?_,?_,(XO hx.fr).nil,(XO hy.fr).nil⟩,?_⟩
  .refine (cw _ _ (Cr ⟨neg&&decide (x.v/Nat.gcd x.v y.v>0),mD x.fr (mE x.fr y.fr),mD y.fr (mE x.fr y.fr)⟩ (kn .i64 0)) rfl (m:=[cR ⟨neg&&decide (x.v/Nat.gcd x.v y.v>0),mD x.fr (mE x.fr y.fr),mD y.fr (mE x.fr y.fr)⟩]) ?_).trans (by simp only[RV.fr,EY]);rw[Vo];simp only[ae,aQ,dh,dS,cr,eR,eQ,cG,cF,cH,dM,eU,eu,ez,eo,dE,dC,eW,eD,eE,eC,cY,cZ,eX,eG,eH,eF,dK,dN,eY,eK,eL,eJ,eI,eZ,fc,eO,eP,eN,eM,fe,ff,dj,dk,dG,dY,eh,ee,dZ,dT,cM,dD,dX,ba,bo,aW,bF,b6,cu,bq,cW,dO,fg,eT,dr,dI,dL,dw,cO,cS,e1,nf,e2,iK,aC];rw[an (fun h=>h0 ((Cj _).1 h))];simp only[ae,aQ,dh,dS,cr,eR,eQ,cG,cF,cH,dM,eU,eu,ez,eo,dE,dC,eW,eD,eE,eC,cY,cZ,eX,eG,eH,eF,dK,dN,eY,eK,eL,eJ,eI,eZ,fc,eO,eP,eN,eM,fe,ff,dj,dk,dG,dY,eh,ee,dZ,dT,cM,dD,dX,ba,bo,aW,bF,b6,cu,bq,cW,dO,fg,eT,dr,dI,dL,dw,cO,cS,hgf,e3,e4,iz,xh,hq]
   have hlen:decide ((aG (x.v/Nat.gcd x.v y.v)).length>0)=decide (x.v/Nat.gcd x.v y.v>0):=jm.2 (by
    constructor
    .intro h;apply pR;intro e;rw[e,mC] at h;simp at h
    .intro h;have:(aG (x.v/Nat.gcd x.v y.v)).length≠0:=fun e=>by have:=n5.1 e;omega
     omega)
   cases neg with
   | false=>rfl
   | true=>
    rw[j8,hlen];simp only[ae,aQ,dh,dS,cr,eR,eQ,cG,cF,cH,dM,eU,eu,ez,eo,dE,dC,eW,eD,eE,eC,cY,cZ,eX,eG,eH,eF,dK,dN,eY,eK,eL,eJ,eI,eZ,fc,eO,eP,eN,eM,fe,ff,dj,dk,dG,dY,eh,ee,dZ,dT,cM,dD,dX,ba,bo,aW,bF,b6,cu,bq,cW,dO,fg,eT,dr,dI,dL,dw,cO,cS,dd]
  .rw[Rv h0];exact hq
  .rw[Rw h0];exact hd
  .simp only[RV.fr,EY]
theorem zj:zR.fr=zR:=rfl
theorem DA:rp.fr=rp:=rfl
theorem KQ:kO.fr=kO:=rfl
theorem I8{x y:NV}(neg:Bool)(hx:NOk x)(hy:NOk y):∃r:RV,AP af 126 [.bool neg,x.av,y.av]=some r.av/\Can r (cT neg x.v y.v)/\r.fr=r:=by
 rcases VK neg hx.fr hy.fr with ⟨h0,h1⟩|⟨h0,r,h1,h2,h3⟩
 .refine ⟨rp,cw _ _ (jv rp) (lV _) (m:=[cR rp,cR zR]) ?_,?_,DA⟩
  .rw[Vh];simp only[ae,aQ,dh,dS,cr,eR,eQ,cG,cF,cH,dM,eU,eu,ez,eo,dE,dC,eW,eD,eE,eC,cY,cZ,eX,eG,eH,eF,dK,dN,eY,eK,eL,eJ,eI,eZ,fc,eO,eP,eN,eM,fe,ff,dj,dk,dG,dY,eh,ee,dZ,dT,cM,dD,dX,ba,bo,aW,bF,b6,cu,bq,cW,dO,fg,eT,dr,dI,dL,dw,cO,cS,h1,gm,aC];rw[aq (by decide)];simp only[ae,aQ,dh,dS,cr,eR,eQ,cG,cF,cH,dM,eU,eu,ez,eo,dE,dC,eW,eD,eE,eC,cY,cZ,eX,eG,eH,eF,dK,dN,eY,eK,eL,eJ,eI,eZ,fc,eO,eP,eN,eM,fe,ff,dj,dk,dG,dY,eh,ee,dZ,dT,cM,dD,dX,ba,bo,aW,bF,b6,cu,bq,cW,dO,fg,eT,dr,dI,dL,dw,cO,cS,Ey]
  .have:y.v=0:=h0;rw[this,Bj];exact Ac
 .refine ⟨r,(cw _ _ (jv r) (lV _) (m:=[cR r,cR r]) ?_).trans (by rw[h3]),h2,h3⟩;rw[Vh];simp only[ae,aQ,dh,dS,cr,eR,eQ,cG,cF,cH,dM,eU,eu,ez,eo,dE,dC,eW,eD,eE,eC,cY,cZ,eX,eG,eH,eF,dK,dN,eY,eK,eL,eJ,eI,eZ,fc,eO,eP,eN,eM,fe,ff,dj,dk,dG,dY,eh,ee,dZ,dT,cM,dD,dX,ba,bo,aW,bF,b6,cu,bq,cW,dO,fg,eT,dr,dI,dL,dw,cO,cS,h1,gm,aC];rw[an (by decide)]
def jH(r:RV):Int:=if r.num.v=0\/r.den.v=0 then 0 else if r.neg then -1 else 1
theorem I9{r:RV}{k:Nat}(h:ROk k r):AP af 129 [r.av]=some (.I (jH r)):=by
 have nf:iQ.fr=iQ:=rfl;have e1:=xU h.num.fr Q7;have e2:=xU h.den.fr Q7;have v1:r.num.fr.v=r.num.v:=rfl;have v2:r.den.fr.v=r.den.v:=rfl;rw[Q8,v1] at e1;rw[Q8,v2] at e2;refine cw _ _ (gJ _ _) rfl (m:=[cR r]) ?_;rw[qjR];simp only[ae,aQ,dh,dS,cr,eR,eQ,cG,cF,cH,dM,eU,eu,ez,eo,dE,dC,eW,eD,eE,eC,cY,cZ,eX,eG,eH,eF,dK,dN,eY,eK,eL,eJ,eI,eZ,fc,eO,eP,eN,eM,fe,ff,dj,dk,dG,dY,eh,ee,dZ,dT,cM,dD,dX,ba,bo,aW,bF,b6,cu,bq,cW,dO,fg,eT,dr,dI,dL,dw,cO,cS,nf,e1,iK,aC];unfold jH
 by_cases h1:r.num.v=0
 .rw[aq ((Cj _).2 h1),aq (.inl h1)]
 .rw[an (fun h=>h1 ((Cj _).1 h))];simp only[ae,aQ,dh,dS,cr,eR,eQ,cG,cF,cH,dM,eU,eu,ez,eo,dE,dC,eW,eD,eE,eC,cY,cZ,eX,eG,eH,eF,dK,dN,eY,eK,eL,eJ,eI,eZ,fc,eO,eP,eN,eM,fe,ff,dj,dk,dG,dY,eh,ee,dZ,dT,cM,dD,dX,ba,bo,aW,bF,b6,cu,bq,cW,dO,fg,eT,dr,dI,dL,dw,cO,cS,e2,iK,aC]
  by_cases h2:r.den.v=0
  .rw[aq ((Cj _).2 h2),aq (.inr h2)]
  .rw[an (fun h=>h2 ((Cj _).1 h)),an (fun h=>h.elim h1 h2)];cases hn:r.neg<;>rfl
end Go.Ab
namespace Go.Ab
noncomputable section
variable (a0 a1 a2:AV) (m:ai)
open Go.Proofs.Tryz
theorem T21:AC af 21 [a0,a1] m=(dp none (some 3) m a0).bind fun r1=>(dp none (some 3) r1.2 a1).bind fun r2=>(aj (some 3) r2.2 r1.1).bind fun v3=>(aj (some 3) r2.2 r2.1).bind fun v4=>(aF (AP af) none r2.2 73 [v3,v4]).bind fun r5=>(ag .o .eql r5.1 (.I 0)).bind fun v6=>some (v6,r5.2):=
(bm af 21 [a0,a1] m (fn:=f21) (c:=aE f21) qnp rfl).trans au
theorem T73:AC af 73 [a0,a1] m=(dp none (some 3) m a0).bind fun r1=>(dp none (some 3) r1.2 a1).bind fun r2=>(aj (some 3) r2.2 r1.1).bind fun v3=>(aj (some 3) r2.2 r2.1).bind fun v4=>(aF (AP af) none r2.2 134 [v3,v4]).bind fun r5=>(aF (AP af) none r5.2 57 [r5.1]).bind fun r6=>some (r6.1,r6.2):=
(bm af 73 [a0,a1] m (fn:=f73) (c:=aE f73) qnX rfl).trans au
theorem T23:AC af 23 [] m=(aF (AP af) none (az none m (.B [(.bool false),aD,aD])).2 72 [(.U 1)]).bind fun r1=>(aF (AP af) none r1.2 72 [(.U 1)]).bind fun r2=>(fR (.agg [(.bool false),aD,aD]) [(1,none,r1.1),(2,none,r2.1)]).bind fun v3=>(aP (some 3) r2.2 (.ptr (az none m .resv).1 0) v3).bind fun m4=>(aj (some 3) m4 (.ptr (az none m .resv).1 0)).bind fun v5=>some (v5,m4):=
(bm af 23 [] m (fn:=f23) (c:=aE f23) qnr rfl).trans au
theorem T20:AC af 20 [] m=(aF (AP af) none (az none m (.B [(.bool false),aD,aD])).2 72 [(.U 1)]).bind fun r1=>(fR (.agg [(.bool false),aD,aD]) [(2,none,r1.1)]).bind fun v2=>(aP (some 3) r1.2 (.ptr (az none m .resv).1 0) v2).bind fun m3=>(aj (some 3) m3 (.ptr (az none m .resv).1 0)).bind fun v4=>some (v4,m3):=
(bm af 20 [] m (fn:=f20) (c:=aE f20) qnk rfl).trans au
theorem Oy:AC af 22 [a0,a1] m=(dp none (some 3) m a0).bind fun r1=>(dp none (some 3) r1.2 a1).bind fun r2=>(aj (some 3) (az none r2.2 (.B [(.bool false),aD,aD])).2 r1.1).bind fun v3=>(aF (AP af) (some (az none r2.2 (.B [(.bool false),aD,aD])).2.length) (az none r2.2 (.B [(.bool false),aD,aD])).2 74 [v3]).bind fun r4=>(aj (some 3) r4.2 r2.1).bind fun v5=>(aF (AP af) (some (az none r2.2 (.B [(.bool false),aD,aD])).2.length) r4.2 74 [v5]).bind fun r6=>(aP (some 3) r6.2 r1.1 r4.1).bind fun m7=>(aP (some 3) m7 r2.1 r6.1).bind fun m8=>(aL 1 r1.1).bind fun v9=>(aj none m8 v9).bind fun v10=>(aL 2 r2.1).bind fun v11=>(aj none m8 v11).bind fun v12=>(aF (AP af) (some m8.length) m8 75 [v10,v12]).bind fun gB=>(aL 1 r2.1).bind fun bf=>(aj none gB.2 bf).bind fun bh=>(aL 2 r1.1).bind fun bK=>(aj none gB.2 bK).bind fun bH=>(aF (AP af) (some m8.length) gB.2 75 [bh,bH]).bind fun ij=>(aL 2 r1.1).bind fun cP=>(aj none ij.2 cP).bind fun v20=>(aL 2 r2.1).bind fun v21=>(aj none ij.2 v21).bind fun v22=>(aF (AP af) (some m8.length) ij.2 75 [v20,v22]).bind fun ka=>(aL 0 r1.1).bind fun v24=>(aj none ka.2 v24).bind fun v25=>(aF (AP af) (some ka.2.length) ka.2 76 [gB.1,ij.1]).bind fun kD=>(aL 0 r1.1).bind fun iR=>(aj none kD.2 iR).bind fun v28=>(aL 0 r2.1).bind fun jh=>(aj none kD.2 jh).bind fun v30=>(ag .bl .neq v28 v30).bind fun v31=>aB v31 ((aF (AP af) none kD.2 77 [gB.1,ij.1]).bind fun Bl=>(ag .o .geq Bl.1 (.I 0)).bind fun kR=>aB kR ((aF (AP af) none Bl.2 78 [gB.1,ij.1]).bind fun vu=>(a8 vu.1 0).bind fun kF=>(a8 vu.1 1).bind fun se=>(aF (AP af) none vu.2 79 [v25,kF,ka.1]).bind fun Bm=>(a8 Bm.1 0).bind fun qe=>(a8 Bm.1 1).bind fun rm=>(aP (some 3) (az none Bm.2 (.B [(.bool false),aD,aD])).2 (.ptr (az none Bm.2 .resv).1 0) qe).bind fun m40=>(aj (some 3) m40 (.ptr (az none Bm.2 .resv).1 0)).bind fun GH=>(aP (some 3) m40 (.ptr (az none r2.2 .resv).1 0) GH).bind fun m42=>(aj (some 3) m42 (.ptr (az none r2.2 .resv).1 0)).bind fun Bv=>some (Bv,m42)) ((aL 0 r2.1).bind fun Sm=>(aj none Bl.2 Sm).bind fun Bw=>(aF (AP af) none Bl.2 78 [ij.1,gB.1]).bind fun De=>(a8 De.1 0).bind fun GJ=>(a8 De.1 1).bind fun LK=>(aF (AP af) none De.2 79 [Bw,GJ,ka.1]).bind fun yX=>(a8 yX.1 0).bind fun Sn=>(a8 yX.1 1).bind fun v51=>(aP (some 3) (az none yX.2 (.B [(.bool false),aD,aD])).2 (.ptr (az none yX.2 .resv).1 0) Sn).bind fun m52=>(aj (some 3) m52 (.ptr (az none yX.2 .resv).1 0)).bind fun v53=>(aP (some 3) m52 (.ptr (az none r2.2 .resv).1 0) v53).bind fun m54=>(aj (some 3) m54 (.ptr (az none r2.2 .resv).1 0)).bind fun Sr=>some (Sr,m54))) ((aF (AP af) none kD.2 79 [v25,kD.1,ka.1]).bind fun yY=>(a8 yY.1 0).bind fun v57=>(a8 yY.1 1).bind fun v58=>(aP (some 3) (az none yY.2 (.B [(.bool false),aD,aD])).2 (.ptr (az none yY.2 .resv).1 0) v57).bind fun m59=>(aj (some 3) m59 (.ptr (az none yY.2 .resv).1 0)).bind fun Ss=>(aP (some 3) m59 (.ptr (az none r2.2 .resv).1 0) Ss).bind fun m61=>(aj (some 3) m61 (.ptr (az none r2.2 .resv).1 0)).bind fun Su=>some (Su,m61)):=
(bm af 22 [a0,a1] m (fn:=f22) (c:=aE f22) qnq rfl).trans au
theorem T56:AC af 56 [a0] m=(dp none (some 3) m a0).bind fun r1=>(aL 1 r1.1).bind fun v2=>(aj none r1.2 v2).bind fun v3=>(aF (AP af) none r1.2 118 [v3]).bind fun r4=>(gH .not r4.1).bind fun v5=>aB v5 (some ((.bool false),r4.2)) ((aL 2 r1.1).bind fun v6=>(aj none r4.2 v6).bind fun v7=>(aF (AP af) none r4.2 118 [v7]).bind fun r8=>(gH .not r8.1).bind fun v9=>aB v9 (some ((.bool false),r8.2)) ((aL 2 r1.1).bind fun v10=>(aj none r8.2 v10).bind fun v11=>(aM false v11).bind fun v12=>(ag .o .eql v12 (.I 0)).bind fun bg=>aB bg (some ((.bool false),r8.2)) ((aL 1 r1.1).bind fun bf=>(aj none r8.2 bf).bind fun bh=>(aM false bh).bind fun bK=>(ag .o .eql bK (.I 0)).bind fun bH=>aB bH ((aL 0 r1.1).bind fun cV=>(aj none r8.2 cV).bind fun cP=>(gH .not cP).bind fun v20=>aB v20 ((aL 2 r1.1).bind fun v21=>(aj none r8.2 v21).bind fun v22=>(aF (AP af) (some r8.2.length) r8.2 72 [(.U 1)]).bind fun ka=>(aF (AP af) (some r8.2.length) ka.2 77 [v22,ka.1]).bind fun lE=>(ag .o .eql lE.1 (.I 0)).bind fun v25=>some (v25,lE.2)) (some ((.bool false),r8.2))) ((aL 1 r1.1).bind fun v26=>(aj none r8.2 v26).bind fun iR=>(aL 2 r1.1).bind fun v28=>(aj none r8.2 v28).bind fun jh=>(aF (AP af) none r8.2 119 [iR,jh]).bind fun r30=>(aF (AP af) none r30.2 72 [(.U 1)]).bind fun rh=>(aF (AP af) none rh.2 77 [r30.1,rh.1]).bind fun Bl=>(ag .o .eql Bl.1 (.I 0)).bind fun kR=>some (kR,Bl.2))))):=
(bm af 56 [a0] m (fn:=f56) (c:=aE f56) qnG rfl).trans au
theorem qjF:AC af 116 [a0,a1] m=(aF (AP af) none (az none m (.B [(.bool false),aD,aD])).2 154 [a0]).bind fun r1=>(a8 r1.1 0).bind fun v2=>(a8 r1.1 1).bind fun v3=>(aF (AP af) none r1.2 154 [a1]).bind fun r4=>(a8 r4.1 0).bind fun v5=>(a8 r4.1 1).bind fun v6=>(ag .bl .neq v3 v6).bind fun v7=>(aF (AP af) none r4.2 79 [v7,v2,v5]).bind fun r8=>(a8 r8.1 0).bind fun v9=>(a8 r8.1 1).bind fun v10=>(aP (some 3) r8.2 (.ptr (az none m .resv).1 0) v9).bind fun m11=>(aj (some 3) m11 (.ptr (az none m .resv).1 0)).bind fun v12=>some ((.tup [v12,v10]),m11):=
(bm af 116 [a0,a1] m (fn:=f116) (c:=aE f116) qmh rfl).trans au
theorem qjG:AC af 117 [a0,a1] m=(dp none (some 3) m a0).bind fun r1=>(dp none (some 3) r1.2 a1).bind fun r2=>(aj (some 3) (az none r2.2 (.B [(.bool false),aD,aD])).2 r1.1).bind fun v3=>(aF (AP af) (some (az none r2.2 (.B [(.bool false),aD,aD])).2.length) (az none r2.2 (.B [(.bool false),aD,aD])).2 74 [v3]).bind fun r4=>(aj (some 3) r4.2 r2.1).bind fun v5=>(aF (AP af) (some (az none r2.2 (.B [(.bool false),aD,aD])).2.length) r4.2 74 [v5]).bind fun r6=>(aP (some 3) r6.2 r1.1 r4.1).bind fun m7=>(aP (some 3) m7 r2.1 r6.1).bind fun m8=>(aL 0 r1.1).bind fun v9=>(aj none (bV m8 1) v9).bind fun v10=>(aL 0 r2.1).bind fun v11=>(aj none (bV m8 1) v11).bind fun v12=>(ag .bl .neq v10 v12).bind fun bg=>(aL 1 r1.1).bind fun bf=>(aj none (bV m8 1) bf).bind fun bh=>(aL 1 r2.1).bind fun bK=>(aj none (bV m8 1) bK).bind fun bH=>(aF (AP af) (some m8.length) (bV m8 1) 75 [bh,bH]).bind fun ij=>(aL 2 r1.1).bind fun cP=>(aj none ij.2 cP).bind fun v20=>(aL 2 r2.1).bind fun v21=>(aj none ij.2 v21).bind fun v22=>(aF (AP af) (some m8.length) ij.2 75 [v20,v22]).bind fun ka=>(aF (AP af) (some m8.length) ka.2 79 [bg,ij.1,ka.1]).bind fun lE=>(a8 lE.1 0).bind fun v25=>(a8 lE.1 1).bind fun v26=>(aP (some 3) (az (some m8.length) lE.2 (.B [(.bool false),aD,aD])).2 (.ptr (az (some m8.length) lE.2 .resv).1 0) v25).bind fun m27=>(aj (some 3) m27 (.ptr (az (some m8.length) lE.2 .resv).1 0)).bind fun v28=>(aP (some 3) m27 (.ptr (az none r2.2 .resv).1 0) v28).bind fun m29=>(aj (some 3) m29 (.ptr (az none r2.2 .resv).1 0)).bind fun v30=>some (v30,m29):=
(bm af 117 [a0,a1] m (fn:=f117) (c:=aE f117) qmi rfl).trans au
theorem T57:AC af 57 [a0] m=(dp none (some 3) m a0).bind fun r1=>(aj (some 3) r1.2 r1.1).bind fun v2=>(aF (AP af) none r1.2 74 [v2]).bind fun r3=>(aP (some 3) r3.2 r1.1 r3.1).bind fun m4=>(aL 1 r1.1).bind fun v5=>(aj none m4 v5).bind fun v6=>(aM false v6).bind fun v7=>(ag .o .eql v7 (.I 0)).bind fun v8=>aB v8 (some ((.I 0),m4)) ((aL 0 r1.1).bind fun v9=>(aj none m4 v9).bind fun v10=>aB v10 (some ((.I (-1)),m4)) (some ((.I 1),m4))):=
(bm af 57 [a0] m (fn:=f57) (c:=aE f57) qnH rfl).trans au
theorem qjX:AC af 134 [a0,a1] m=(dp none (some 3) m a0).bind fun r1=>(dp none (some 3) r1.2 a1).bind fun r2=>(aj (some 3) (az none r2.2 (.B [(.bool false),aD,aD])).2 r1.1).bind fun v3=>(aj (some 3) (az none r2.2 (.B [(.bool false),aD,aD])).2 r2.1).bind fun v4=>(aF (AP af) (some (az none r2.2 (.B [(.bool false),aD,aD])).2.length) (az none r2.2 (.B [(.bool false),aD,aD])).2 169 [v4]).bind fun r5=>(aF (AP af) (some (az none r2.2 (.B [(.bool false),aD,aD])).2.length) r5.2 22 [v3,r5.1]).bind fun r6=>(aP (some 3) r6.2 (.ptr (az none r2.2 .resv).1 0) r6.1).bind fun m7=>(aj (some 3) m7 (.ptr (az none r2.2 .resv).1 0)).bind fun v8=>some (v8,m7):=
(bm af 134 [a0,a1] m (fn:=f134) (c:=aE f134) qmA rfl).trans au
theorem Vt:AC af 74 [a0] m=(dp none (some 3) m a0).bind fun r1=>(aL 0 r1.1).bind fun v2=>(aj none (az none r1.2 (.B [(.bool false),aD,aD])).2 v2).bind fun v3=>(aL 1 r1.1).bind fun v4=>(aj none (az none r1.2 (.B [(.bool false),aD,aD])).2 v4).bind fun v5=>(aL 2 r1.1).bind fun v6=>(aj none (az none r1.2 (.B [(.bool false),aD,aD])).2 v6).bind fun v7=>(aF (AP af) none (az none r1.2 (.B [(.bool false),aD,aD])).2 79 [v3,v5,v7]).bind fun r8=>(a8 r8.1 0).bind fun v9=>(a8 r8.1 1).bind fun v10=>(aP (some 3) (az none r8.2 (.B [(.bool false),aD,aD])).2 (.ptr (az none r8.2 .resv).1 0) v9).bind fun m11=>(ag .o .neq v10 (.I 0)).bind fun v12=>aB v12 ((aF (AP af) none m11 20 []).bind fun gB=>(aP (some 3) gB.2 (.ptr (az none r1.2 .resv).1 0) gB.1).bind fun m14=>(aj (some 3) m14 (.ptr (az none r1.2 .resv).1 0)).bind fun bh=>some (bh,m14)) ((aj (some 3) m11 (.ptr (az none r8.2 .resv).1 0)).bind fun bK=>(aP (some 3) m11 (.ptr (az none r1.2 .resv).1 0) bK).bind fun m17=>(aj (some 3) m17 (.ptr (az none r1.2 .resv).1 0)).bind fun cV=>some (cV,m17)):=
(bm af 74 [a0] m (fn:=f74) (c:=aE f74) qnY rfl).trans au
theorem Vv:AC af 79 [a0,a1,a2] m=(aF (AP af) none (az none m (.B [(.bool false),aD,aD])).2 136 [a2]).bind fun r1=>(ag .o .eql r1.1 (.I 0)).bind fun v2=>aB v2 ((fR (.agg [(.bool false),aD,aD]) []).bind fun v3=>(aP (some 3) r1.2 (.ptr (az none m .resv).1 0) v3).bind fun m4=>(aj (some 3) m4 (.ptr (az none m .resv).1 0)).bind fun v5=>some ((.tup [v5,(.I 31)]),m4)) ((aF (AP af) none r1.2 119 [a1,a2]).bind fun r6=>(aF (AP af) none r6.2 137 [a1,r6.1]).bind fun r7=>(a8 r7.1 0).bind fun v8=>(a8 r7.1 1).bind fun v9=>(a8 r7.1 2).bind fun v10=>(aF (AP af) none r7.2 137 [a2,r6.1]).bind fun jU=>(a8 jU.1 0).bind fun v12=>(a8 jU.1 1).bind fun bg=>(a8 jU.1 2).bind fun bf=>aB a0 ((aM false v8).bind fun bh=>(ag .o .gtr bh (.I 0)).bind fun bK=>(fR (.agg [(.bool false),aD,aD]) [(0,none,bK),(1,none,v8),(2,none,v12)]).bind fun bH=>(aP (some 3) jU.2 (.ptr (az none m .resv).1 0) bH).bind fun m18=>(aj (some 3) m18 (.ptr (az none m .resv).1 0)).bind fun cP=>some ((.tup [cP,(.I 0)]),m18)) ((fR (.agg [(.bool false),aD,aD]) [(0,none,(.bool false)),(1,none,v8),(2,none,v12)]).bind fun v20=>(aP (some 3) jU.2 (.ptr (az none m .resv).1 0) v20).bind fun m21=>(aj (some 3) m21 (.ptr (az none m .resv).1 0)).bind fun v22=>some ((.tup [v22,(.I 0)]),m21))):=
(bm af 79 [a0,a1,a2] m (fn:=f79) (c:=aE f79) qn3 rfl).trans au
theorem qj6:AC af 154 [a0] m=(ag .o .lss a0 (.I 0)).bind fun v1=>aB v1 ((ag .o .add a0 (.I 1)).bind fun v2=>(gH .neg v2).bind fun v3=>(bE .u64 v3).bind fun v4=>(ag .o .add v4 (.U 1)).bind fun v5=>(aF (AP af) none m 72 [v5]).bind fun r6=>some ((.tup [r6.1,(.bool true)]),r6.2)) ((bE .u64 a0).bind fun v7=>(aF (AP af) none m 72 [v7]).bind fun r8=>some ((.tup [r8.1,(.bool false)]),r8.2)):=
(bm af 154 [a0] m (fn:=f154) (c:=aE f154) qmQ rfl).trans au
theorem Vp:AC af 169 [a0] m=(dp none (some 3) m a0).bind fun r1=>(aj (some 3) (az none r1.2 (.B [(.bool false),aD,aD])).2 r1.1).bind fun v2=>(aF (AP af) none (az none r1.2 (.B [(.bool false),aD,aD])).2 74 [v2]).bind fun r3=>(aP (some 3) r3.2 r1.1 r3.1).bind fun m4=>(aL 0 r1.1).bind fun v5=>(aj none m4 v5).bind fun v6=>(gH .not v6).bind fun v7=>aB v7 ((aL 1 r1.1).bind fun v8=>(aj none m4 v8).bind fun v9=>(aM false v9).bind fun v10=>(ag .o .gtr v10 (.I 0)).bind fun v11=>(aL 0 r1.1).bind fun v12=>(aP none m4 v12 v11).bind fun m13=>(aj (some 3) m13 r1.1).bind fun bf=>(aP (some 3) m13 (.ptr (az none r1.2 .resv).1 0) bf).bind fun m15=>(aj (some 3) m15 (.ptr (az none r1.2 .resv).1 0)).bind fun bK=>some (bK,m15)) ((aL 0 r1.1).bind fun bH=>(aP none m4 bH (.bool false)).bind fun m18=>(aj (some 3) m18 r1.1).bind fun cP=>(aP (some 3) m18 (.ptr (az none r1.2 .resv).1 0) cP).bind fun m20=>(aj (some 3) m20 (.ptr (az none r1.2 .resv).1 0)).bind fun v21=>some (v21,m20)):=
(bm af 169 [a0] m (fn:=f169) (c:=aE f169) qm5 rfl).trans au
end
end Go.Ab
namespace Go.Ab
open Go.Proofs.Tryz
theorem Jw{x:NV}(h:qN x.ds=true):decide (x.ds.length=0)=decide (x.v=0):=by
 have:x.ds=aG x.v:=sS h;rw[this];exact jm.2 n5
theorem qkN{r:RV}{k:Nat}(h:ROk k r):AP af 152 [r.av]=some (.bool (kE r)):=by
 have e1:=VO h.num.fr;have e2:=VO h.den.fr;have e3:=VP h.num.fr h.den.fr;have hg:=Ye h.num.fr h.den.fr;have e4:=qkV hg.fr;have v4:(mE r.num.fr r.den.fr).fr.v=Nat.gcd r.num.v r.den.v:=Yf _ _;rw[v4] at e4;have d1:r.num.fr.ds=r.num.ds:=rfl;have d2:r.den.fr.ds=r.den.ds:=rfl;rw[d1] at e1;rw[d2] at e2;refine cw _ _ (km _) rfl (m:=[cR r]) ?_;have one:∀n:Nat,ag .o .eql (.U n) (.U 1)=some (.bool (decide (n=1))):=fun n=>xg
 have tail:∀m:ai,((some (ui (Nat.gcd r.num.v r.den.v),m)).bind fun kC=>(a8 kC.1 0).bind fun v26=>(a8 kC.1 1).bind fun iR=>
   aB iR ((ag .o .eql v26 (.U 1)).bind fun v28=>some (v28,kC.2)) (some ((.bool false),kC.2)))=some (.bool (decide (Nat.gcd r.num.v r.den.v=1)),m):=by
  intro m;unfold ui
  split
  .simp only[Nat.reduceAdd,ae,aQ,dh,dS,cr,eR,eQ,cG,cF,cH,dM,eU,eu,ez,eo,dE,dC,eW,eD,eE,eC,cY,cZ,eX,eG,eH,eF,dK,dN,eY,eK,eL,eJ,eI,eZ,fc,eO,eP,eN,eM,fe,ff,dj,dk,dG,dY,eh,ee,dZ,dT,cM,dD,dX,ba,bo,aW,bF,b6,cu,bq,cW,dO,fg,eT,dr,dI,dL,dw,cO,cS,j8,one]
  .rename_i hb;simp only[Nat.reduceAdd,ae,aQ,dh,dS,cr,eR,eQ,cG,cF,cH,dM,eU,eu,ez,eo,dE,dC,eW,eD,eE,eC,cY,cZ,eX,eG,eH,eF,dK,dN,eY,eK,eL,eJ,eI,eZ,fc,eO,eP,eN,eM,fe,ff,dj,dk,dG,dY,eh,ee,dZ,dT,cM,dD,dX,ba,bo,aW,bF,b6,cu,bq,cW,dO,fg,eT,dr,dI,dL,dw,cO,cS,j7];rw[bD (by omega:¬ Nat.gcd r.num.v r.den.v=1)]
 rw[qj4];simp only[Nat.reduceAdd,ae,aQ,dh,dS,cr,eR,eQ,cG,cF,cH,dM,eU,eu,ez,eo,dE,dC,eW,eD,eE,eC,cY,cZ,eX,eG,eH,eF,dK,dN,eY,eK,eL,eJ,eI,eZ,fc,eO,eP,eN,eM,fe,ff,dj,dk,dG,dY,eh,ee,dZ,dT,cM,dD,dX,ba,bo,aW,bF,b6,cu,bq,cW,dO,fg,eT,dr,dI,dL,dw,cO,cS,e1];unfold kE
 cases h1:qN r.num.ds with
 | false=>rfl
 | true=>
  simp only[Nat.reduceAdd,ae,aQ,dh,dS,cr,eR,eQ,cG,cF,cH,dM,eU,eu,ez,eo,dE,dC,eW,eD,eE,eC,cY,cZ,eX,eG,eH,eF,dK,dN,eY,eK,eL,eJ,eI,eZ,fc,eO,eP,eN,eM,fe,ff,dj,dk,dG,dY,eh,ee,dZ,dT,cM,dD,dX,ba,bo,aW,bF,b6,cu,bq,cW,dO,fg,eT,dr,dI,dL,dw,cO,cS,jj,j7,e2,dd]
  cases h2:qN r.den.ds with
  | false=>rfl
  | true=>
   simp only[Nat.reduceAdd,ae,aQ,dh,dS,cr,eR,eQ,cG,cF,cH,dM,eU,eu,ez,eo,dE,dC,eW,eD,eE,eC,cY,cZ,eX,eG,eH,eF,dK,dN,eY,eK,eL,eJ,eI,eZ,fc,eO,eP,eN,eM,fe,ff,dj,dk,dG,dY,eh,ee,dZ,dT,cM,dD,dX,ba,bo,aW,bF,b6,cu,bq,cW,dO,fg,eT,dr,dI,dL,dw,cO,cS,jj,j7,iz,mN,dd,Jw h2];rw[aC]
   by_cases h3:r.den.v=0
   .rw[aq h3];simp[h3]
   .rw[an h3];simp only[Nat.reduceAdd,ae,aQ,dh,dS,cr,eR,eQ,cG,cF,cH,dM,eU,eu,ez,eo,dE,dC,eW,eD,eE,eC,cY,cZ,eX,eG,eH,eF,dK,dN,eY,eK,eL,eJ,eI,eZ,fc,eO,eP,eN,eM,fe,ff,dj,dk,dG,dY,eh,ee,dZ,dT,cM,dD,dX,ba,bo,aW,bF,b6,cu,bq,cW,dO,fg,eT,dr,dI,dL,dw,cO,cS,iz,mN,Jw h1];rw[aC]
    by_cases h4:r.num.v=0
    .rw[aq h4]
     cases hn:r.neg with
     | true=>rw[j8];simp[h4]
     | false=>
      rw[j7];simp only[Nat.reduceAdd,ae,aQ,dh,dS,cr,eR,eQ,cG,cF,cH,dM,eU,eu,ez,eo,dE,dC,eW,eD,eE,eC,cY,cZ,eX,eG,eH,eF,dK,dN,eY,eK,eL,eJ,eI,eZ,fc,eO,eP,eN,eM,fe,ff,dj,dk,dG,dY,eh,ee,dZ,dT,cM,dD,dX,ba,bo,aW,bF,b6,cu,bq,cW,dO,fg,eT,dr,dI,dL,dw,cO,cS,e3,e4];refine (tail _).trans ?_;simp[h3]
    .rw[an h4];simp only[Nat.reduceAdd,ae,aQ,dh,dS,cr,eR,eQ,cG,cF,cH,dM,eU,eu,ez,eo,dE,dC,eW,eD,eE,eC,cY,cZ,eX,eG,eH,eF,dK,dN,eY,eK,eL,eJ,eI,eZ,fc,eO,eP,eN,eM,fe,ff,dj,dk,dG,dY,eh,ee,dZ,dT,cM,dD,dX,ba,bo,aW,bF,b6,cu,bq,cW,dO,fg,eT,dr,dI,dL,dw,cO,cS,e3,e4];refine (tail _).trans ?_;simp[h3,h4]
theorem Jf:AP af 72 [.U 1]=some (cc 1).av:=Ez (n:=1) aa
def qh:RV:=⟨false,iQ,cc 1⟩
def sT:RV:=⟨false,cc 1,cc 1⟩
theorem Gs(n:Nat):(cc n).z=true->(cc n).ds=[]:=by
 intro h;unfold cc rY at h ⊢
 split at h
 .split<;>first|rfl|(rename_i h1 h2;exact absurd h1 h2)
 .cases h
theorem Jx:Can qh 0:=⟨rfl,mC.symm,kQ 1,fun _=>rfl,Gs 1⟩
theorem wk:Can sT 1:=⟨rfl,kQ 1,kQ 1,Gs 1,Gs 1⟩
theorem BB:qh.fr=qh:=by simp only[qh,RV.fr,jM];rfl
theorem Bc:sT.fr=sT:=by simp only[sT,RV.fr,jM]
theorem Jc:AP af 20 []=some qh.av:=by
 refine (cw _ _ (jv qh) (lV _) (m:=[cR qh]) ?_).trans (by rw[BB]);rw[T20];simp only[Nat.reduceAdd,ae,aQ,dh,dS,cr,eR,eQ,cG,cF,cH,dM,eU,eu,ez,eo,dE,dC,eW,eD,eE,eC,cY,cZ,eX,eG,eH,eF,dK,dN,eY,eK,eL,eJ,eI,eZ,fc,eO,eP,eN,eM,fe,ff,dj,dk,dG,dY,eh,ee,dZ,dT,cM,dD,dX,ba,bo,aW,bF,b6,cu,bq,cW,dO,fg,eT,dr,dI,dL,dw,cO,cS,Jf]
 rfl
theorem Jd:AP af 23 []=some sT.av:=by
 refine (cw _ _ (jv sT) (lV _) (m:=[cR sT]) ?_).trans (by rw[Bc]);rw[T23];simp only[Nat.reduceAdd,ae,aQ,dh,dS,cr,eR,eQ,cG,cF,cH,dM,eU,eu,ez,eo,dE,dC,eW,eD,eE,eC,cY,cZ,eX,eG,eH,eF,dK,dN,eY,eK,eL,eJ,eI,eZ,fc,eO,eP,eN,eM,fe,ff,dj,dk,dG,dY,eh,ee,dZ,dT,cM,dD,dX,ba,bo,aW,bF,b6,cu,bq,cW,dO,fg,eT,dr,dI,dL,dw,cO,cS,Jf]
 rfl
theorem XT(k:Nat):ag .o .eql (.I k) (.I 0)=some (.bool (decide (k=0))):=mN
theorem Jg{x y:NV}(neg:Bool)(hx:NOk x)(hy:NOk y)(lx:(aG x.v).length<2^38)(ly:(aG y.v).length<2^38):(y.v=0/\AP af 79 [.bool neg,x.av,y.av]=some (.tup [zR.av,.I 31])) \/
  (y.v≠0/\∃r:RV,AP af 79 [.bool neg,x.av,y.av]=some (.tup [r.av,.I 0])/\Can r (cT neg x.v y.v)/\r.fr=r):=by
 obtain ⟨kb,e0,e0'⟩:=qkJ hy.fr;have e1:=VC hx.fr hy.fr lx ly;have v1:x.fr.v=x.v:=rfl;have v2:y.fr.v=y.v:=rfl;rw[v1,v2] at e1;rw[v2] at e0'
 have lg:(aG (Nat.gcd x.v y.v)).length<2^38:=by
  by_cases h0:x.v=0
  .rw[h0,Nat.gcd_zero_left];exact ly
  .exact jQ (mb (Nat.gcd_le_left _ (pR h0))) lx
 have hg:NOk (cc (Nat.gcd x.v y.v)):=iu aa;have e3:=VF hx.fr hg (by rw[v1];omega) (by rw[fO];omega);have e4:=VF hy.fr hg (by rw[v2];omega) (by rw[fO];omega)
 by_cases h0:y.v=0
 .refine .inl ⟨h0,cw _ _ (Cr zR (kn _ _)) rfl (m:=[cR zR]) ?_⟩;rw[Vv];simp only[Nat.reduceAdd,ae,aQ,dh,dS,cr,eR,eQ,cG,cF,cH,dM,eU,eu,ez,eo,dE,dC,eW,eD,eE,eC,cY,cZ,eX,eG,eH,eF,dK,dN,eY,eK,eL,eJ,eI,eZ,fc,eO,eP,eN,eM,fe,ff,dj,dk,dG,dY,eh,ee,dZ,dT,cM,dD,dX,ba,bo,aW,bF,b6,cu,bq,cW,dO,fg,eT,dr,dI,dL,dw,cO,cS,e0,XT,aC];rw[aq (e0'.2 h0)]
 .refine .inr ⟨h0,?_⟩
  have uU:Nat.gcd x.v y.v≠0:=by
   have:=Nat.gcd_pos_of_pos_right x.v (pR h0);omega
  unfold O9 at e3 e4;rw[fO,an uU,v1] at e3;rw[fO,an uU,v2] at e4
  refine ⟨⟨neg&&decide (x.v/Nat.gcd x.v y.v>0),cc (x.v/Nat.gcd x.v y.v),cc (y.v/Nat.gcd x.v y.v)⟩,?_,⟨(qbN h0).symm,?_,?_,Gs _,Gs _⟩,?_⟩
  .refine (cw _ _ (Cr ⟨neg&&decide (x.v/Nat.gcd x.v y.v>0),cc (x.v/Nat.gcd x.v y.v),cc (y.v/Nat.gcd x.v y.v)⟩ (kn .i64 0)) rfl (m:=[cR ⟨neg&&decide (x.v/Nat.gcd x.v y.v>0),cc (x.v/Nat.gcd x.v y.v),cc (y.v/Nat.gcd x.v y.v)⟩]) ?_).trans (by simp only[RV.fr,jM]);rw[Vv];simp only[Nat.reduceAdd,ae,aQ,dh,dS,cr,eR,eQ,cG,cF,cH,dM,eU,eu,ez,eo,dE,dC,eW,eD,eE,eC,cY,cZ,eX,eG,eH,eF,dK,dN,eY,eK,eL,eJ,eI,eZ,fc,eO,eP,eN,eM,fe,ff,dj,dk,dG,dY,eh,ee,dZ,dT,cM,dD,dX,ba,bo,aW,bF,b6,cu,bq,cW,dO,fg,eT,dr,dI,dL,dw,cO,cS,e0,XT,aC];rw[an (fun h=>h0 (e0'.1 h))];simp only[Nat.reduceAdd,ae,aQ,dh,dS,cr,eR,eQ,cG,cF,cH,dM,eU,eu,ez,eo,dE,dC,eW,eD,eE,eC,cY,cZ,eX,eG,eH,eF,dK,dN,eY,eK,eL,eJ,eI,eZ,fc,eO,eP,eN,eM,fe,ff,dj,dk,dG,dY,eh,ee,dZ,dT,cM,dD,dX,ba,bo,aW,bF,b6,cu,bq,cW,dO,fg,eT,dr,dI,dL,dw,cO,cS,e1,jM,e3,e4,p9,xh]
   have hlen:decide ((aG (x.v/Nat.gcd x.v y.v)).length>0)=decide (x.v/Nat.gcd x.v y.v>0):=jm.2 (by
    constructor
    .intro h;apply pR;intro e;rw[e,mC] at h;simp at h
    .intro h;have:(aG (x.v/Nat.gcd x.v y.v)).length≠0:=fun e=>by have:=n5.1 e;omega
     omega)
   cases neg with
   | false=>rfl
   | true=>
    rw[j8,hlen];simp only[Nat.reduceAdd,ae,aQ,dh,dS,cr,eR,eQ,cG,cF,cH,dM,eU,eu,ez,eo,dE,dC,eW,eD,eE,eC,cY,cZ,eX,eG,eH,eF,dK,dN,eY,eK,eL,eJ,eI,eZ,fc,eO,eP,eN,eM,fe,ff,dj,dk,dG,dY,eh,ee,dZ,dT,cM,dD,dX,ba,bo,aW,bF,b6,cu,bq,cW,dO,fg,eT,dr,dI,dL,dw,cO,cS,dd]
  .rw[Rv h0];exact kQ _
  .rw[Rw h0];exact kQ _
  .simp only[RV.fr,jM]
theorem Ca{r:RV}{k:Nat}(h:ROk k r)(hk:k<2^38):∃s:RV,AP af 74 [r.av]=some s.av/\Can s r.q/\s.fr=s:=by
 have ln:=fC h.num.v_len h.ln;have ld:=fC h.den.v_len h.ld
 rcases Jg r.neg h.num.fr h.den.fr (by show (aG r.num.v).length<_;omega) (by show (aG r.den.v).length<_;omega) with ⟨h0,h1⟩|⟨h0,s,h1,h2,h3⟩
 .refine ⟨qh,(cw _ _ (jv qh) (lV _) (m:=[cR r,cR qh,cR zR]) ?_).trans (by rw[BB]),?_,BB⟩
  .rw[Vt];simp only[Nat.reduceAdd,ae,aQ,dh,dS,cr,eR,eQ,cG,cF,cH,dM,eU,eu,ez,eo,dE,dC,eW,eD,eE,eC,cY,cZ,eX,eG,eH,eF,dK,dN,eY,eK,eL,eJ,eI,eZ,fc,eO,eP,eN,eM,fe,ff,dj,dk,dG,dY,eh,ee,dZ,dT,cM,dD,dX,ba,bo,aW,bF,b6,cu,bq,cW,dO,fg,eT,dr,dI,dL,dw,cO,cS,h1,gm,aC];rw[aq (by decide)];simp only[Nat.reduceAdd,ae,aQ,dh,dS,cr,eR,eQ,cG,cF,cH,dM,eU,eu,ez,eo,dE,dC,eW,eD,eE,eC,cY,cZ,eX,eG,eH,eF,dK,dN,eY,eK,eL,eJ,eI,eZ,fc,eO,eP,eN,eM,fe,ff,dj,dk,dG,dY,eh,ee,dZ,dT,cM,dD,dX,ba,bo,aW,bF,b6,cu,bq,cW,dO,fg,eT,dr,dI,dL,dw,cO,cS,Jc]
  .have:r.den.v=0:=h0;rw[RV.q,this,Bj];exact Jx
 .refine ⟨s,(cw _ _ (jv s) (lV _) (m:=[cR r,cR s,cR s]) ?_).trans (by rw[h3]),h2,h3⟩;rw[Vt];simp only[Nat.reduceAdd,ae,aQ,dh,dS,cr,eR,eQ,cG,cF,cH,dM,eU,eu,ez,eo,dE,dC,eW,eD,eE,eC,cY,cZ,eX,eG,eH,eF,dK,dN,eY,eK,eL,eJ,eI,eZ,fc,eO,eP,eN,eM,fe,ff,dj,dk,dG,dY,eh,ee,dZ,dT,cM,dD,dX,ba,bo,aW,bF,b6,cu,bq,cW,dO,fg,eT,dr,dI,dL,dw,cO,cS,h1,gm,aC];rw[an (by decide)]
end Go.Ab
namespace Go.Ab
open Go.Proofs.Tryz
def y7(q:Rat):Int:=if q=0 then 0 else if q.num<0 then -1 else 1
theorem qtB(q:Rat):y7 q=0↔q=0:=by
 unfold y7
 constructor
 .intro h
  split at h
  .assumption
  .split at h<;>omega
 .intro h;rw[aq h]
theorem Can.len0{r:RV}{q:Rat}(h:Can r q):r.num.ds.length=0↔q=0:=by
 rw[h.num,n5,Int.natAbs_eq_zero,Rat.num_eq_zero]
theorem VS{r:RV}{k:Nat}(h:ROk k r)(hk:k<2^38):AP af 57 [r.av]=some (.I (y7 r.q)):=by
 obtain ⟨s,e1,e2,e3⟩:=Ca h.fr hk;rw[RV.fr_q] at e2;refine cw _ _ (gJ _ _) rfl (m:=[cR s]) ?_;rw[T57];simp only[Nat.reduceAdd,ae,aQ,dh,dS,cr,eR,eQ,cG,cF,cH,dM,eU,eu,ez,eo,dE,dC,eW,eD,eE,eC,cY,cZ,eX,eG,eH,eF,dK,dN,eY,eK,eL,eJ,eI,eZ,fc,eO,eP,eN,eM,fe,ff,dj,dk,dG,dY,eh,ee,dZ,dT,cM,dD,dX,ba,bo,aW,bF,b6,cu,bq,cW,dO,fg,eT,dr,dI,dL,dw,cO,cS,e1,iz,mN,aC];unfold y7
 by_cases h0:r.q=0
 .rw[aq (e2.len0.2 h0),aq h0]
 .rw[an (fun hh=>h0 (e2.len0.1 hh)),an h0,e2.neg,aC];split<;>rfl
theorem qkT{r:RV}{k:Nat}(h:ROk k r)(hk:k<2^38):∃s:RV,AP af 169 [r.av]=some s.av/\Can s (-r.q)/\s.fr=s:=by
 obtain ⟨s,e1,e2,e3⟩:=Ca h.fr hk;rw[RV.fr_q] at e2
 have hlen:∀b:Bool,decide (s.num.ds.length>0)=decide (r.q≠0):=by
  intro b;refine jm.2 ?_;have:=e2.len0
  constructor
  .intro h1 h2;have:=this.2 h2;omega
  .intro h1;have:s.num.ds.length≠0:=fun e=>h1 (this.1 e);omega
 have jL:s.num.fr=s.num:=dc RV.num e3;have kM:s.den.fr=s.den:=dc RV.den e3
 have hc:∀b:Bool,b=decide ((-r.q).num<0)->Can ⟨b,s.num,s.den⟩ (-r.q):=by
  intro b hb
  refine ⟨hb,?_,?_,e2.numz,e2.denz⟩
  .rw[Rat.neg_num,Int.natAbs_neg];exact e2.num
  .rw[Rat.neg_den];exact e2.den
 cases hn:s.neg with
 | true=>
  have hq:r.q.num<0:=by have:=e2.neg;rw[hn] at this;exact sS this.symm
  refine ⟨⟨false,s.num,s.den⟩,(cw _ _ (jv ⟨false,s.num,s.den⟩) (lV _) (m:=[cR ⟨false,s.num,s.den⟩,cR ⟨false,s.num,s.den⟩]) ?_).trans (by simp only[RV.fr,jL,kM]),hc false ?_,by simp only[RV.fr,jL,kM]⟩
  .rw[Vp];simp only[Nat.reduceAdd,ae,aQ,dh,dS,cr,eR,eQ,cG,cF,cH,dM,eU,eu,ez,eo,dE,dC,eW,eD,eE,eC,cY,cZ,eX,eG,eH,eF,dK,dN,eY,eK,eL,eJ,eI,eZ,fc,eO,eP,eN,eM,fe,ff,dj,dk,dG,dY,eh,ee,dZ,dT,cM,dD,dX,ba,bo,aW,bF,b6,cu,bq,cW,dO,fg,eT,dr,dI,dL,dw,cO,cS,e1,hn,jj,j7]
  .rw[Rat.neg_num];exact (bD (by omega)).symm
 | false=>
  have hq:¬ r.q.num<0:=by have:=e2.neg;rw[hn] at this;exact of_decide_eq_false this.symm
  refine ⟨⟨decide (r.q≠0),s.num,s.den⟩,(cw _ _ (jv ⟨decide (r.q≠0),s.num,s.den⟩) (lV _) (m:=[cR ⟨decide (r.q≠0),s.num,s.den⟩,cR ⟨decide (r.q≠0),s.num,s.den⟩]) ?_).trans (by simp only[RV.fr,jL,kM]),hc _ ?_,by simp only[RV.fr,jL,kM]⟩
  .rw[Vp];simp only[Nat.reduceAdd,ae,aQ,dh,dS,cr,eR,eQ,cG,cF,cH,dM,eU,eu,ez,eo,dE,dC,eW,eD,eE,eC,cY,cZ,eX,eG,eH,eF,dK,dN,eY,eK,eL,eJ,eI,eZ,fc,eO,eP,eN,eM,fe,ff,dj,dk,dG,dY,eh,ee,dZ,dT,cM,dD,dX,ba,bo,aW,bF,b6,cu,bq,cW,dO,fg,eT,dr,dI,dL,dw,cO,cS,e1,hn,my,j8,iz,xh,hlen true]
  .rw[Rat.neg_num];refine jm.2 ?_;have h0:r.q=0↔r.q.num=0:=Rat.num_eq_zero.symm
   constructor
   .intro h1;have:r.q.num≠0:=fun e=>h1 (h0.2 e);omega
   .intro h1 h2;have:=h0.1 h2;omega
theorem OD{a b:RV}{k:Nat}(ha:ROk k a)(hb:ROk k b)(hk1:1<=k)(hk:k<2^36):∃s:RV,AP af 22 [a.av,b.av]=some s.av/\Can s (a.q+b.q)/\s.fr=s:=by
 obtain ⟨s,e1,e2,e3⟩:=Ca ha.fr aa;obtain ⟨t,f1,f2,f3⟩:=Ca hb.fr aa;rw[RV.fr_q] at e2 f2;have os:=e2.ok (ha.bd hk1) aa;have ot:=f2.ok (hb.bd hk1) aa;have jL:s.num.fr=s.num:=dc RV.num e3;have kM:s.den.fr=s.den:=dc RV.den e3;have wZ:t.num.fr=t.num:=dc RV.num f3;have w0:t.den.fr=t.den:=dc RV.den f3;have lx:=pL (fC os.num.v_len os.ln) (fC ot.den.v_len ot.ld);have ly:=pL (fC ot.num.v_len ot.ln) (fC os.den.v_len os.ld);have ld:=pL (fC os.den.v_len os.ld) (fC ot.den.v_len ot.ld);have lxy:=QN lx ly;have g1:=Cb os.num ot.den;have g2:=Cb ot.num os.den;have g3:=Cb os.den ot.den;have ox:NOk (cc (s.num.v*t.den.v)):=iu aa;have oy:NOk (cc (t.num.v*s.den.v)):=iu aa;have od:NOk (cc (s.den.v*t.den.v)):=iu aa;have g4:=VU ox oy (jM _) (jM _);have g5:=zW ox oy;have g6:=EA ox oy (jM _) (jM _);have g7:=EA oy ox (jM _) (jM _);rw[fO,fO] at g4 g5;unfold Dn at g6 g7;rw[fO,fO] at g6 g7;have yq:s.den.v*t.den.v≠0:=Nat.mul_ne_zero e2.den0 f2.den0
 have lS:a.q+b.q=mkRat (gg s.neg (s.num.v*t.den.v)+gg t.neg (t.num.v*s.den.v)) (s.den.v*t.den.v):=by
  rw[<- e2.q,<- f2.q];exact K3 e2.den0 f2.den0
 have fin:∀(neg:Bool) (n:Nat),(aG n).length<2^38->mkRat (gg s.neg (s.num.v*t.den.v)+gg t.neg (t.num.v*s.den.v)) (s.den.v*t.den.v)=cT neg n (s.den.v*t.den.v)->∃r:RV,AP af 79 [.bool neg,(cc n).av,(cc (s.den.v*t.den.v)).av]=some (.tup [r.av,.I 0])/\Can r (a.q+b.q)/\r.fr=r:=by
  intro neg n hn he
  rcases Jg neg (iu (n:=n) aa) od (by rw[fO];exact hn) (by rw[fO];omega) with ⟨h0,_⟩|⟨_,r,h1,h2,h3⟩
  .rw[fO] at h0;exact absurd h0 yq
  .rw[fO,fO,<- he,<- lS] at h2;exact ⟨r,h1,h2,h3⟩
 by_cases hn:s.neg=t.neg
 .obtain ⟨r,h1,h2,h3⟩:=fin s.neg (s.num.v*t.den.v+t.num.v*s.den.v) aa (by rw[<- hn,qcc];rfl);refine ⟨r,(cw _ _ (jv r) (lV _) (m:=[cR s,cR t,cR r,cR r]) ?_).trans (by rw[h3]),h2,h3⟩;rw[Oy];simp only[Nat.reduceAdd,ae,aQ,dh,dS,cr,eR,eQ,cG,cF,cH,dM,eU,eu,ez,eo,dE,dC,eW,eD,eE,eC,cY,cZ,eX,eG,eH,eF,dK,dN,eY,eK,eL,eJ,eI,eZ,fc,eO,eP,eN,eM,fe,ff,dj,dk,dG,dY,eh,ee,dZ,dT,cM,dD,dX,ba,bo,aW,bF,b6,cu,bq,cW,dO,fg,eT,dr,dI,dL,dw,cO,cS,e1,f1,jL,kM,wZ,w0,g1,g2,g3,jM,g4,hn,bne_self_eq_false,j7];rw[hn] at h1;simp only[Nat.reduceAdd,ae,aQ,dh,dS,cr,eR,eQ,cG,cF,cH,dM,eU,eu,ez,eo,dE,dC,eW,eD,eE,eC,cY,cZ,eX,eG,eH,eF,dK,dN,eY,eK,eL,eJ,eI,eZ,fc,eO,eP,eN,eM,fe,ff,dj,dk,dG,dY,eh,ee,dZ,dT,cM,dD,dX,ba,bo,aW,bF,b6,cu,bq,cW,dO,fg,eT,dr,dI,dL,dw,cO,cS,h1]
 .have hne:(s.neg != t.neg)=true:=by simpa using hn
  by_cases hlt:s.num.v*t.den.v<t.num.v*s.den.v
  .obtain ⟨r,h1,h2,h3⟩:=fin t.neg (t.num.v*s.den.v-s.num.v*t.den.v) (jQ (mb (Nat.sub_le _ _)) aa) (by rw[qca hn hlt];rfl);refine ⟨r,(cw _ _ (jv r) (lV _) (m:=[cR s,cR t,cR r,cR r]) ?_).trans (by rw[h3]),h2,h3⟩;have hc:¬ gZ (s.num.v*t.den.v) (t.num.v*s.den.v)≥0:=by unfold gZ;rw[aq hlt];omega
   rw[an aa] at g7;rw[Oy];simp only[Nat.reduceAdd,ae,aQ,dh,dS,cr,eR,eQ,cG,cF,cH,dM,eU,eu,ez,eo,dE,dC,eW,eD,eE,eC,cY,cZ,eX,eG,eH,eF,dK,dN,eY,eK,eL,eJ,eI,eZ,fc,eO,eP,eN,eM,fe,ff,dj,dk,dG,dY,eh,ee,dZ,dT,cM,dD,dX,ba,bo,aW,bF,b6,cu,bq,cW,dO,fg,eT,dr,dI,dL,dw,cO,cS,e1,f1,jL,kM,wZ,w0,g1,g2,g3,jM,g4,hne,j8,g5,ki,aC];rw[an hc];simp only[Nat.reduceAdd,ae,aQ,dh,dS,cr,eR,eQ,cG,cF,cH,dM,eU,eu,ez,eo,dE,dC,eW,eD,eE,eC,cY,cZ,eX,eG,eH,eF,dK,dN,eY,eK,eL,eJ,eI,eZ,fc,eO,eP,eN,eM,fe,ff,dj,dk,dG,dY,eh,ee,dZ,dT,cM,dD,dX,ba,bo,aW,bF,b6,cu,bq,cW,dO,fg,eT,dr,dI,dL,dw,cO,cS,jM,g7,h1]
  .obtain ⟨r,h1,h2,h3⟩:=fin s.neg (s.num.v*t.den.v-t.num.v*s.den.v) (jQ (mb (Nat.sub_le _ _)) aa) (by rw[qb9 hn hlt];rfl);refine ⟨r,(cw _ _ (jv r) (lV _) (m:=[cR s,cR t,cR r,cR r]) ?_).trans (by rw[h3]),h2,h3⟩;have hc:gZ (s.num.v*t.den.v) (t.num.v*s.den.v)≥0:=by unfold gZ;rw[an hlt];split<;>omega
   rw[an hlt] at g6;rw[Oy];simp only[Nat.reduceAdd,ae,aQ,dh,dS,cr,eR,eQ,cG,cF,cH,dM,eU,eu,ez,eo,dE,dC,eW,eD,eE,eC,cY,cZ,eX,eG,eH,eF,dK,dN,eY,eK,eL,eJ,eI,eZ,fc,eO,eP,eN,eM,fe,ff,dj,dk,dG,dY,eh,ee,dZ,dT,cM,dD,dX,ba,bo,aW,bF,b6,cu,bq,cW,dO,fg,eT,dr,dI,dL,dw,cO,cS,e1,f1,jL,kM,wZ,w0,g1,g2,g3,jM,g4,hne,j8,g5,ki,aC];rw[aq hc];simp only[Nat.reduceAdd,ae,aQ,dh,dS,cr,eR,eQ,cG,cF,cH,dM,eU,eu,ez,eo,dE,dC,eW,eD,eE,eC,cY,cZ,eX,eG,eH,eF,dK,dN,eY,eK,eL,eJ,eI,eZ,fc,eO,eP,eN,eM,fe,ff,dj,dk,dG,dY,eh,ee,dZ,dT,cM,dD,dX,ba,bo,aW,bF,b6,cu,bq,cW,dO,fg,eT,dr,dI,dL,dw,cO,cS,jM,g6,h1]
theorem qkI{a b:RV}{k:Nat}(ha:ROk k a)(hb:ROk k b)(hk1:1<=k)(hk:k<2^36):∃s:RV,AP af 134 [a.av,b.av]=some s.av/\Can s (a.q-b.q)/\s.fr=s:=by
 obtain ⟨t,f1,f2,f3⟩:=qkT hb.fr aa;rw[RV.fr_q] at f2
 have bt:Bd k (-b.q):=by
  have:=hb.bd hk1
  refine ⟨?_,?_⟩
  .rw[Rat.neg_num,Int.natAbs_neg];exact this.1
  .rw[Rat.neg_den];exact this.2
 have ot:=f2.ok bt aa;obtain ⟨s,e1,e2,e3⟩:=OD ha.fr ot hk1 hk;rw[f2.q,RV.fr_q,<- Rat.sub_eq_add_neg] at e2;refine ⟨s,(cw _ _ (jv s) (lV _) (m:=[cR a,cR b,cR s]) ?_).trans (by rw[e3]),e2,e3⟩;rw[qjX];simp only[Nat.reduceAdd,ae,aQ,dh,dS,cr,eR,eQ,cG,cF,cH,dM,eU,eu,ez,eo,dE,dC,eW,eD,eE,eC,cY,cZ,eX,eG,eH,eF,dK,dN,eY,eK,eL,eJ,eI,eZ,fc,eO,eP,eN,eM,fe,ff,dj,dk,dG,dY,eh,ee,dZ,dT,cM,dD,dX,ba,bo,aW,bF,b6,cu,bq,cW,dO,fg,eT,dr,dI,dL,dw,cO,cS,f1,f3,e1]
theorem V73{a b:RV}{k:Nat}(ha:ROk k a)(hb:ROk k b)(hk1:1<=k)(hk:k<2^36):AP af 73 [a.av,b.av]=some (.I (y7 (a.q-b.q))):=by
 obtain ⟨s,e1,e2,e3⟩:=qkI ha.fr hb.fr hk1 hk;rw[RV.fr_q,RV.fr_q] at e2
 have bs:=Mb (ha.bd hk1) (q:=-b.q) (l:=k) (by
  have:=hb.bd hk1
  refine ⟨?_,?_⟩
  .rw[Rat.neg_num,Int.natAbs_neg];exact this.1
  .rw[Rat.neg_den];exact this.2) hk1
 rw[<- Rat.sub_eq_add_neg] at bs;have os:=e2.ok bs aa;have e4:=VS os aa;rw[e2.q] at e4;refine cw _ _ (gJ _ _) rfl (m:=[cR a,cR b]) ?_;rw[T73];simp only[Nat.reduceAdd,ae,aQ,dh,dS,cr,eR,eQ,cG,cF,cH,dM,eU,eu,ez,eo,dE,dC,eW,eD,eE,eC,cY,cZ,eX,eG,eH,eF,dK,dN,eY,eK,eL,eJ,eI,eZ,fc,eO,eP,eN,eM,fe,ff,dj,dk,dG,dY,eh,ee,dZ,dT,cM,dD,dX,ba,bo,aW,bF,b6,cu,bq,cW,dO,fg,eT,dr,dI,dL,dw,cO,cS,e1,e3,e4]
theorem OC{a b:RV}{k:Nat}(ha:ROk k a)(hb:ROk k b)(hk1:1<=k)(hk:k<2^36):AP af 21 [a.av,b.av]=some (.bool (decide (a.q=b.q))):=by
 have e1:=V73 ha.fr hb.fr hk1 hk;rw[RV.fr_q,RV.fr_q] at e1;refine cw _ _ (km _) rfl (m:=[cR a,cR b]) ?_;rw[T21];simp only[Nat.reduceAdd,ae,aQ,dh,dS,cr,eR,eQ,cG,cF,cH,dM,eU,eu,ez,eo,dE,dC,eW,eD,eE,eC,cY,cZ,eX,eG,eH,eF,dK,dN,eY,eK,eL,eJ,eI,eZ,fc,eO,eP,eN,eM,fe,ff,dj,dk,dG,dY,eh,ee,dZ,dT,cM,dD,dX,ba,bo,aW,bF,b6,cu,bq,cW,dO,fg,eT,dr,dI,dL,dw,cO,cS,e1,iK];congr 3;refine jm.2 ?_;rw[qtB]
 constructor
 .intro h;have:=Rat.sub_add_cancel (a:=a.q) (b:=b.q);rw[h,Rat.zero_add] at this;exact this.symm
 .intro h;rw[h,Rat.sub_self]
end Go.Ab
namespace Go.Ab
open Go.Proofs.Tryz
theorem V56{r:RV}{k:Nat}(h:ROk k r)(hk:k<2^38):AP af 56 [r.av]=some (.bool (kE r)):=by
 have ln:=fC h.num.v_len h.ln;have ld:=fC h.den.v_len h.ld;have e1:=VB h.num.fr;have e2:=VB h.den.fr;have e3:=VC h.num.fr h.den.fr (by show (aG r.num.v).length<_;omega) (by show (aG r.den.v).length<_;omega);have v1:r.num.fr.v=r.num.v:=rfl;have v2:r.den.fr.v=r.den.v:=rfl;rw[v1,v2] at e3;have lg:(aG (Nat.gcd r.num.v r.den.v)).length<2^40:=XK aa aa;have o1:NOk (cc 1):=iu qrG;have e5:=zW (iu lg) o1;have e6:=zW h.den.fr o1;rw[fO,fO] at e5;rw[fO,v2] at e6;have d1:r.num.fr.ds=r.num.ds:=rfl;have d2:r.den.fr.ds=r.den.ds:=rfl;rw[d1] at e1;rw[d2] at e2
 have cm:∀n:Nat,(ag .o .eql (.I (gZ n 1)) (.I 0))=some (.bool (decide (n=1))):=by
  intro n;rw[iK];congr 2;refine jm.2 ?_;unfold gZ;constructor<;>intro h<;>(repeat' split at *)<;>omega
 refine cw _ _ (km _) rfl (m:=[cR r]) ?_;rw[T56];simp only[Nat.reduceAdd,ae,aQ,dh,dS,cr,eR,eQ,cG,cF,cH,dM,eU,eu,ez,eo,dE,dC,eW,eD,eE,eC,cY,cZ,eX,eG,eH,eF,dK,dN,eY,eK,eL,eJ,eI,eZ,fc,eO,eP,eN,eM,fe,ff,dj,dk,dG,dY,eh,ee,dZ,dT,cM,dD,dX,ba,bo,aW,bF,b6,cu,bq,cW,dO,fg,eT,dr,dI,dL,dw,cO,cS,e1];unfold kE
 cases h1:qN r.num.ds with
 | false=>rfl
 | true=>
  simp only[Nat.reduceAdd,ae,aQ,dh,dS,cr,eR,eQ,cG,cF,cH,dM,eU,eu,ez,eo,dE,dC,eW,eD,eE,eC,cY,cZ,eX,eG,eH,eF,dK,dN,eY,eK,eL,eJ,eI,eZ,fc,eO,eP,eN,eM,fe,ff,dj,dk,dG,dY,eh,ee,dZ,dT,cM,dD,dX,ba,bo,aW,bF,b6,cu,bq,cW,dO,fg,eT,dr,dI,dL,dw,cO,cS,jj,j7,e2,dd]
  cases h2:qN r.den.ds with
  | false=>rfl
  | true=>
   simp only[Nat.reduceAdd,ae,aQ,dh,dS,cr,eR,eQ,cG,cF,cH,dM,eU,eu,ez,eo,dE,dC,eW,eD,eE,eC,cY,cZ,eX,eG,eH,eF,dK,dN,eY,eK,eL,eJ,eI,eZ,fc,eO,eP,eN,eM,fe,ff,dj,dk,dG,dY,eh,ee,dZ,dT,cM,dD,dX,ba,bo,aW,bF,b6,cu,bq,cW,dO,fg,eT,dr,dI,dL,dw,cO,cS,jj,j7,iz,mN,dd,Jw h2];rw[aC]
   by_cases h3:r.den.v=0
   .rw[aq h3];simp[h3]
   .rw[an h3];simp only[Nat.reduceAdd,ae,aQ,dh,dS,cr,eR,eQ,cG,cF,cH,dM,eU,eu,ez,eo,dE,dC,eW,eD,eE,eC,cY,cZ,eX,eG,eH,eF,dK,dN,eY,eK,eL,eJ,eI,eZ,fc,eO,eP,eN,eM,fe,ff,dj,dk,dG,dY,eh,ee,dZ,dT,cM,dD,dX,ba,bo,aW,bF,b6,cu,bq,cW,dO,fg,eT,dr,dI,dL,dw,cO,cS,iz,mN,Jw h1];rw[aC]
    by_cases h4:r.num.v=0
    .rw[aq h4]
     cases hn:r.neg with
     | true=>simp only[Nat.reduceAdd,ae,aQ,dh,dS,cr,eR,eQ,cG,cF,cH,dM,eU,eu,ez,eo,dE,dC,eW,eD,eE,eC,cY,cZ,eX,eG,eH,eF,dK,dN,eY,eK,eL,eJ,eI,eZ,fc,eO,eP,eN,eM,fe,ff,dj,dk,dG,dY,eh,ee,dZ,dT,cM,dD,dX,ba,bo,aW,bF,b6,cu,bq,cW,dO,fg,eT,dr,dI,dL,dw,cO,cS,jj,j7];simp[h4]
     | false=>
      simp only[Nat.reduceAdd,ae,aQ,dh,dS,cr,eR,eQ,cG,cF,cH,dM,eU,eu,ez,eo,dE,dC,eW,eD,eE,eC,cY,cZ,eX,eG,eH,eF,dK,dN,eY,eK,eL,eJ,eI,eZ,fc,eO,eP,eN,eM,fe,ff,dj,dk,dG,dY,eh,ee,dZ,dT,cM,dD,dX,ba,bo,aW,bF,b6,cu,bq,cW,dO,fg,eT,dr,dI,dL,dw,cO,cS,my,j8,Jf,jM,e6,cm];simp[h3,h4]
    .rw[an h4];simp only[Nat.reduceAdd,ae,aQ,dh,dS,cr,eR,eQ,cG,cF,cH,dM,eU,eu,ez,eo,dE,dC,eW,eD,eE,eC,cY,cZ,eX,eG,eH,eF,dK,dN,eY,eK,eL,eJ,eI,eZ,fc,eO,eP,eN,eM,fe,ff,dj,dk,dG,dY,eh,ee,dZ,dT,cM,dD,dX,ba,bo,aW,bF,b6,cu,bq,cW,dO,fg,eT,dr,dI,dL,dw,cO,cS,Jf,e3,jM,e5,cm];simp[h3,h4]
theorem qkC{a b:RV}{k:Nat}(ha:ROk k a)(hb:ROk k b)(hk1:1<=k)(hk:k<2^36):∃s:RV,AP af 117 [a.av,b.av]=some s.av/\Can s (a.q*b.q)/\s.fr=s:=by
 obtain ⟨s,e1,e2,e3⟩:=Ca ha.fr aa;obtain ⟨t,f1,f2,f3⟩:=Ca hb.fr aa;rw[RV.fr_q] at e2 f2;have os:=e2.ok (ha.bd hk1) aa;have ot:=f2.ok (hb.bd hk1) aa;have jL:s.num.fr=s.num:=dc RV.num e3;have kM:s.den.fr=s.den:=dc RV.den e3;have wZ:t.num.fr=t.num:=dc RV.num f3;have w0:t.den.fr=t.den:=dc RV.den f3;have ln:=pL (fC os.num.v_len os.ln) (fC ot.num.v_len ot.ln);have ld:=pL (fC os.den.v_len os.ld) (fC ot.den.v_len ot.ld);have g1:=Cb os.num ot.num;have g3:=Cb os.den ot.den;have on:NOk (cc (s.num.v*t.num.v)):=iu aa;have od:NOk (cc (s.den.v*t.den.v)):=iu aa;have yq:s.den.v*t.den.v≠0:=Nat.mul_ne_zero e2.den0 f2.den0;have hq:cT (s.neg != t.neg) (s.num.v*t.num.v) (s.den.v*t.den.v)=a.q*b.q:=by rw[<- Gn,<- e2.q,<- f2.q];rfl
 rcases Jg (s.neg != t.neg) on od (by rw[fO];omega) (by rw[fO];omega) with ⟨h0,_⟩|⟨_,r,h1,h2,h3⟩
 .rw[fO] at h0;exact absurd h0 yq
 .rw[fO,fO,hq] at h2;refine ⟨r,(cw _ _ (jv r) (lV _) (m:=[cR s,cR t,cR r,cR r]) ?_).trans (by rw[h3]),h2,h3⟩;rw[qjG];simp only[Nat.reduceAdd,ae,aQ,dh,dS,cr,eR,eQ,cG,cF,cH,dM,eU,eu,ez,eo,dE,dC,eW,eD,eE,eC,cY,cZ,eX,eG,eH,eF,dK,dN,eY,eK,eL,eJ,eI,eZ,fc,eO,eP,eN,eM,fe,ff,dj,dk,dG,dY,eh,ee,dZ,dT,cM,dD,dX,ba,bo,aW,bF,b6,cu,bq,cW,dO,fg,eT,dr,dI,dL,dw,cO,cS,e1,f1,jL,kM,wZ,w0,g1,g3,jM,h1]
theorem VT{a b:RV}{k:Nat}(ha:ROk k a)(hb:ROk k b)(hk1:1<=k)(hk:k<2^36):∃s:RV,AP af 69 [a.av,b.av]=some s.av/\Can s (a.q*b.q)/\s.fr=s:=by
 have g1:=zU ha.num.fr hb.num.fr;have g2:=zU ha.den.fr hb.den.fr;have v1:a.num.fr.v=a.num.v:=rfl;have v2:a.den.fr.v=a.den.v:=rfl;have v3:b.num.fr.v=b.num.v:=rfl;have v4:b.den.fr.v=b.den.v:=rfl;rw[v1,v3] at g1;rw[v2,v4] at g2;have ln:=pL (fC ha.num.v_len ha.ln) (fC hb.num.v_len hb.ln);have ld:=pL (fC ha.den.v_len ha.ld) (fC hb.den.v_len hb.ld);have on:NOk ⟨false,.no,aG (a.num.v*b.num.v)⟩:=vo aa;have od:NOk ⟨false,.no,aG (a.den.v*b.den.v)⟩:=vo aa;have nf:∀n:Nat,(NV.mk false .no (aG n)).fr=⟨false,.no,aG n⟩:=fun _=>rfl;have nv:∀n:Nat,(NV.mk false .no (aG n)).v=n:=fun n=>gQ n;obtain ⟨r,h1,h2,h3⟩:=I8 (a.neg != b.neg) on od;rw[nv,nv,<- Gn] at h2;refine ⟨r,(cw _ _ (jv r) (lV _) (m:=[cR a,cR b,cR r]) ?_).trans (by rw[h3]),h2,h3⟩;rw[T69];simp only[Nat.reduceAdd,ae,aQ,dh,dS,cr,eR,eQ,cG,cF,cH,dM,eU,eu,ez,eo,dE,dC,eW,eD,eE,eC,cY,cZ,eX,eG,eH,eF,dK,dN,eY,eK,eL,eJ,eI,eZ,fc,eO,eP,eN,eM,fe,ff,dj,dk,dG,dY,eh,ee,dZ,dT,cM,dD,dX,ba,bo,aW,bF,b6,cu,bq,cW,dO,fg,eT,dr,dI,dL,dw,cO,cS,g1,g2,nf,h1]
theorem qcm{r:RV}:jH r=0↔r.q=0:=by
 unfold jH
 by_cases h:r.num.v=0\/r.den.v=0
 .rw[aq h];refine ⟨fun _=>?_,fun _=>rfl⟩
  rcases h with h|h
  .rw[RV.q,h,xq]
  .rw[RV.q,h,Bj]
 .rw[an h]
  constructor
  .intro h';split at h'<;>omega
  .intro h';have hd:r.den.v≠0:=fun e=>h (.inr e);exact absurd (.inl ((qbL hd).1 h')) h
theorem Je{a b:RV}{k:Nat}(ha:ROk k a)(hb:ROk k b)(hk1:1<=k)(hk:k<2^36):∃s:RV,AP af 71 [a.av,b.av]=some s.av/\Can s (a.q+b.q)/\s.fr=s:=by
 have e1:=I9 ha.fr;have e2:=I9 hb.fr;have s1:jH a.fr=jH a:=rfl;have s2:jH b.fr=jH b:=rfl;rw[s1] at e1;rw[s2] at e2;have v1:a.num.fr.v=a.num.v:=rfl;have v2:a.den.fr.v=a.den.v:=rfl;have v3:b.num.fr.v=b.num.v:=rfl;have v4:b.den.fr.v=b.den.v:=rfl
 by_cases Ay:jH a=0
 .obtain ⟨r,h1,h2,h3⟩:=I8 b.neg hb.num.fr hb.den.fr;rw[v3,v4] at h2
  refine ⟨r,(cw _ _ (jv r) (lV _) (m:=[cR a,cR b,cR r]) ?_).trans (by rw[h3]),?_,h3⟩
  .rw[Ew];simp only[Nat.reduceAdd,ae,aQ,dh,dS,cr,eR,eQ,cG,cF,cH,dM,eU,eu,ez,eo,dE,dC,eW,eD,eE,eC,cY,cZ,eX,eG,eH,eF,dK,dN,eY,eK,eL,eJ,eI,eZ,fc,eO,eP,eN,eM,fe,ff,dj,dk,dG,dY,eh,ee,dZ,dT,cM,dD,dX,ba,bo,aW,bF,b6,cu,bq,cW,dO,fg,eT,dr,dI,dL,dw,cO,cS,e1,iK,aC];rw[aq Ay];simp only[Nat.reduceAdd,ae,aQ,dh,dS,cr,eR,eQ,cG,cF,cH,dM,eU,eu,ez,eo,dE,dC,eW,eD,eE,eC,cY,cZ,eX,eG,eH,eF,dK,dN,eY,eK,eL,eJ,eI,eZ,fc,eO,eP,eN,eM,fe,ff,dj,dk,dG,dY,eh,ee,dZ,dT,cM,dD,dX,ba,bo,aW,bF,b6,cu,bq,cW,dO,fg,eT,dr,dI,dL,dw,cO,cS,h1]
  .rw[qcm.1 Ay,Rat.zero_add];exact h2
 .by_cases hb0:jH b=0
  .obtain ⟨r,h1,h2,h3⟩:=I8 a.neg ha.num.fr ha.den.fr;rw[v1,v2] at h2
   refine ⟨r,(cw _ _ (jv r) (lV _) (m:=[cR a,cR b,cR r]) ?_).trans (by rw[h3]),?_,h3⟩
   .rw[Ew];simp only[Nat.reduceAdd,ae,aQ,dh,dS,cr,eR,eQ,cG,cF,cH,dM,eU,eu,ez,eo,dE,dC,eW,eD,eE,eC,cY,cZ,eX,eG,eH,eF,dK,dN,eY,eK,eL,eJ,eI,eZ,fc,eO,eP,eN,eM,fe,ff,dj,dk,dG,dY,eh,ee,dZ,dT,cM,dD,dX,ba,bo,aW,bF,b6,cu,bq,cW,dO,fg,eT,dr,dI,dL,dw,cO,cS,e1,iK,aC];rw[an Ay];simp only[Nat.reduceAdd,ae,aQ,dh,dS,cr,eR,eQ,cG,cF,cH,dM,eU,eu,ez,eo,dE,dC,eW,eD,eE,eC,cY,cZ,eX,eG,eH,eF,dK,dN,eY,eK,eL,eJ,eI,eZ,fc,eO,eP,eN,eM,fe,ff,dj,dk,dG,dY,eh,ee,dZ,dT,cM,dD,dX,ba,bo,aW,bF,b6,cu,bq,cW,dO,fg,eT,dr,dI,dL,dw,cO,cS,e2,iK,aC];rw[aq hb0];simp only[Nat.reduceAdd,ae,aQ,dh,dS,cr,eR,eQ,cG,cF,cH,dM,eU,eu,ez,eo,dE,dC,eW,eD,eE,eC,cY,cZ,eX,eG,eH,eF,dK,dN,eY,eK,eL,eJ,eI,eZ,fc,eO,eP,eN,eM,fe,ff,dj,dk,dG,dY,eh,ee,dZ,dT,cM,dD,dX,ba,bo,aW,bF,b6,cu,bq,cW,dO,fg,eT,dr,dI,dL,dw,cO,cS,h1]
   .rw[qcm.1 hb0,Rat.add_zero];exact h2
  .have da:a.den.v≠0:=fun e=>Ay (by unfold jH;rw[aq (.inr e)]);have db:b.den.v≠0:=fun e=>hb0 (by unfold jH;rw[aq (.inr e)]);have g1:=zU ha.num.fr hb.den.fr;have g2:=zU hb.num.fr ha.den.fr;have g3:=zU ha.den.fr hb.den.fr;rw[v1,v4] at g1;rw[v3,v2] at g2;rw[v2,v4] at g3;have lx:=pL (fC ha.num.v_len ha.ln) (fC hb.den.v_len hb.ld);have ly:=pL (fC hb.num.v_len hb.ln) (fC ha.den.v_len ha.ld);have ld:=pL (fC ha.den.v_len ha.ld) (fC hb.den.v_len hb.ld);have lxy:=QN lx ly;have ox:NOk ⟨false,.no,aG (a.num.v*b.den.v)⟩:=vo aa;have oy:NOk ⟨false,.no,aG (b.num.v*a.den.v)⟩:=vo aa;have od:NOk ⟨false,.no,aG (a.den.v*b.den.v)⟩:=vo aa;have nf:∀n:Nat,(NV.mk false .no (aG n)).fr=⟨false,.no,aG n⟩:=fun _=>rfl;have nv:∀n:Nat,(NV.mk false .no (aG n)).v=n:=fun n=>gQ n;have g4:=qkH ox oy;have g5:=xU ox oy;have g6:=VE ox oy;have g7:=VE oy ox;rw[nv,nv] at g4 g5;unfold R6 at g6 g7;rw[nv,nv] at g6 g7;have lS:a.q+b.q=mkRat (gg a.neg (a.num.v*b.den.v)+gg b.neg (b.num.v*a.den.v)) (a.den.v*b.den.v):=K3 da db
   have fin:∀(neg:Bool) (n:Nat),(aG n).length<2^38->mkRat (gg a.neg (a.num.v*b.den.v)+gg b.neg (b.num.v*a.den.v)) (a.den.v*b.den.v)=cT neg n (a.den.v*b.den.v)->∃r:RV,AP af 126 [.bool neg,(NV.mk false .no (aG n)).av,(NV.mk false .no (aG (a.den.v*b.den.v))).av]=some r.av/\Can r (a.q+b.q)/\r.fr=r:=by
    intro neg n hn he;obtain ⟨r,h1,h2,h3⟩:=I8 neg (x:=⟨false,.no,aG n⟩) (vo aa) od;rw[nv,nv,<- he,<- lS] at h2;exact ⟨r,h1,h2,h3⟩
   by_cases hn:a.neg=b.neg
   .obtain ⟨r,h1,h2,h3⟩:=fin a.neg (a.num.v*b.den.v+b.num.v*a.den.v) aa (by rw[<- hn,qcc];rfl);refine ⟨r,(cw _ _ (jv r) (lV _) (m:=[cR a,cR b,cR r]) ?_).trans (by rw[h3]),h2,h3⟩;rw[Ew];simp only[Nat.reduceAdd,ae,aQ,dh,dS,cr,eR,eQ,cG,cF,cH,dM,eU,eu,ez,eo,dE,dC,eW,eD,eE,eC,cY,cZ,eX,eG,eH,eF,dK,dN,eY,eK,eL,eJ,eI,eZ,fc,eO,eP,eN,eM,fe,ff,dj,dk,dG,dY,eh,ee,dZ,dT,cM,dD,dX,ba,bo,aW,bF,b6,cu,bq,cW,dO,fg,eT,dr,dI,dL,dw,cO,cS,e1,iK,aC];rw[an Ay];simp only[Nat.reduceAdd,ae,aQ,dh,dS,cr,eR,eQ,cG,cF,cH,dM,eU,eu,ez,eo,dE,dC,eW,eD,eE,eC,cY,cZ,eX,eG,eH,eF,dK,dN,eY,eK,eL,eJ,eI,eZ,fc,eO,eP,eN,eM,fe,ff,dj,dk,dG,dY,eh,ee,dZ,dT,cM,dD,dX,ba,bo,aW,bF,b6,cu,bq,cW,dO,fg,eT,dr,dI,dL,dw,cO,cS,e2,iK,aC];rw[an hb0];rw[hn] at h1;simp only[Nat.reduceAdd,ae,aQ,dh,dS,cr,eR,eQ,cG,cF,cH,dM,eU,eu,ez,eo,dE,dC,eW,eD,eE,eC,cY,cZ,eX,eG,eH,eF,dK,dN,eY,eK,eL,eJ,eI,eZ,fc,eO,eP,eN,eM,fe,ff,dj,dk,dG,dY,eh,ee,dZ,dT,cM,dD,dX,ba,bo,aW,bF,b6,cu,bq,cW,dO,fg,eT,dr,dI,dL,dw,cO,cS,g1,g2,g3,nf,hn,BEq.rfl,j8,g4,h1]
   .have hne:(a.neg==b.neg)=false:=by simpa using hn
    by_cases hlt:a.num.v*b.den.v<b.num.v*a.den.v
    .obtain ⟨r,h1,h2,h3⟩:=fin b.neg (b.num.v*a.den.v-a.num.v*b.den.v) (jQ (mb (Nat.sub_le _ _)) aa) (by rw[qca hn hlt];rfl);refine ⟨r,(cw _ _ (jv r) (lV _) (m:=[cR b,cR b,cR r]) ?_).trans (by rw[h3]),h2,h3⟩;have hc:gZ (a.num.v*b.den.v) (b.num.v*a.den.v)<0:=by unfold gZ;rw[aq hlt];omega
     rw[an aa] at g7;rw[Ew];simp only[Nat.reduceAdd,ae,aQ,dh,dS,cr,eR,eQ,cG,cF,cH,dM,eU,eu,ez,eo,dE,dC,eW,eD,eE,eC,cY,cZ,eX,eG,eH,eF,dK,dN,eY,eK,eL,eJ,eI,eZ,fc,eO,eP,eN,eM,fe,ff,dj,dk,dG,dY,eh,ee,dZ,dT,cM,dD,dX,ba,bo,aW,bF,b6,cu,bq,cW,dO,fg,eT,dr,dI,dL,dw,cO,cS,e1,iK,aC];rw[an Ay];simp only[Nat.reduceAdd,ae,aQ,dh,dS,cr,eR,eQ,cG,cF,cH,dM,eU,eu,ez,eo,dE,dC,eW,eD,eE,eC,cY,cZ,eX,eG,eH,eF,dK,dN,eY,eK,eL,eJ,eI,eZ,fc,eO,eP,eN,eM,fe,ff,dj,dk,dG,dY,eh,ee,dZ,dT,cM,dD,dX,ba,bo,aW,bF,b6,cu,bq,cW,dO,fg,eT,dr,dI,dL,dw,cO,cS,e2,iK,aC];rw[an hb0];simp only[Nat.reduceAdd,ae,aQ,dh,dS,cr,eR,eQ,cG,cF,cH,dM,eU,eu,ez,eo,dE,dC,eW,eD,eE,eC,cY,cZ,eX,eG,eH,eF,dK,dN,eY,eK,eL,eJ,eI,eZ,fc,eO,eP,eN,eM,fe,ff,dj,dk,dG,dY,eh,ee,dZ,dT,cM,dD,dX,ba,bo,aW,bF,b6,cu,bq,cW,dO,fg,eT,dr,dI,dL,dw,cO,cS,g1,g2,g3,nf,hne,j7,g5,bz,aC];rw[aq hc];simp only[Nat.reduceAdd,ae,aQ,dh,dS,cr,eR,eQ,cG,cF,cH,dM,eU,eu,ez,eo,dE,dC,eW,eD,eE,eC,cY,cZ,eX,eG,eH,eF,dK,dN,eY,eK,eL,eJ,eI,eZ,fc,eO,eP,eN,eM,fe,ff,dj,dk,dG,dY,eh,ee,dZ,dT,cM,dD,dX,ba,bo,aW,bF,b6,cu,bq,cW,dO,fg,eT,dr,dI,dL,dw,cO,cS,nf,g7,h1]
    .obtain ⟨r,h1,h2,h3⟩:=fin a.neg (a.num.v*b.den.v-b.num.v*a.den.v) (jQ (mb (Nat.sub_le _ _)) aa) (by rw[qb9 hn hlt];rfl);refine ⟨r,(cw _ _ (jv r) (lV _) (m:=[cR a,cR b,cR r]) ?_).trans (by rw[h3]),h2,h3⟩;have hc:¬ gZ (a.num.v*b.den.v) (b.num.v*a.den.v)<0:=by unfold gZ;rw[an hlt];split<;>omega
     rw[an hlt] at g6;rw[Ew];simp only[Nat.reduceAdd,ae,aQ,dh,dS,cr,eR,eQ,cG,cF,cH,dM,eU,eu,ez,eo,dE,dC,eW,eD,eE,eC,cY,cZ,eX,eG,eH,eF,dK,dN,eY,eK,eL,eJ,eI,eZ,fc,eO,eP,eN,eM,fe,ff,dj,dk,dG,dY,eh,ee,dZ,dT,cM,dD,dX,ba,bo,aW,bF,b6,cu,bq,cW,dO,fg,eT,dr,dI,dL,dw,cO,cS,e1,iK,aC];rw[an Ay];simp only[Nat.reduceAdd,ae,aQ,dh,dS,cr,eR,eQ,cG,cF,cH,dM,eU,eu,ez,eo,dE,dC,eW,eD,eE,eC,cY,cZ,eX,eG,eH,eF,dK,dN,eY,eK,eL,eJ,eI,eZ,fc,eO,eP,eN,eM,fe,ff,dj,dk,dG,dY,eh,ee,dZ,dT,cM,dD,dX,ba,bo,aW,bF,b6,cu,bq,cW,dO,fg,eT,dr,dI,dL,dw,cO,cS,e2,iK,aC];rw[an hb0];simp only[Nat.reduceAdd,ae,aQ,dh,dS,cr,eR,eQ,cG,cF,cH,dM,eU,eu,ez,eo,dE,dC,eW,eD,eE,eC,cY,cZ,eX,eG,eH,eF,dK,dN,eY,eK,eL,eJ,eI,eZ,fc,eO,eP,eN,eM,fe,ff,dj,dk,dG,dY,eh,ee,dZ,dT,cM,dD,dX,ba,bo,aW,bF,b6,cu,bq,cW,dO,fg,eT,dr,dI,dL,dw,cO,cS,g1,g2,g3,nf,hne,j7,g5,bz,aC];rw[an hc];simp only[Nat.reduceAdd,ae,aQ,dh,dS,cr,eR,eQ,cG,cF,cH,dM,eU,eu,ez,eo,dE,dC,eW,eD,eE,eC,cY,cZ,eX,eG,eH,eF,dK,dN,eY,eK,eL,eJ,eI,eZ,fc,eO,eP,eN,eM,fe,ff,dj,dk,dG,dY,eh,ee,dZ,dT,cM,dD,dX,ba,bo,aW,bF,b6,cu,bq,cW,dO,fg,eT,dr,dI,dL,dw,cO,cS,nf,g6,h1]
end Go.Ab
namespace Go.Ab
open Go.Proofs.Tryz
def JA(a b:RV):Int:=if jH a<jH b then -1 else if jH a>jH b then 1 else jH a*gZ (a.num.v*b.den.v) (b.num.v*a.den.v)
theorem qtF(r:RV):jH r=-1\/jH r=0\/jH r=1:=by
 unfold jH
 split
 .exact .inr (.inl rfl)
 .split
  .exact .inl rfl
  .exact .inr (.inr rfl)
theorem qoQ(a b:Nat):gZ a b=-1\/gZ a b=0\/gZ a b=1:=by
 unfold gZ
 split
 .exact .inl rfl
 .split
  .exact .inr (.inr rfl)
  .exact .inr (.inl rfl)
theorem Xz(a b:Nat):gZ a b=0↔a=b:=by
 unfold gZ
 split
 .constructor
  .intro h;cases h
  .intro h;omega
 .split
  .constructor
   .intro h;cases h
   .intro h;omega
  .constructor
   .intro _;omega
   .intro _;rfl
theorem qra{a b:Int}(ha:a=-1\/a=0\/a=1)(hb:b=-1\/b=0\/b=1):ag .o .mul (.I a) (.I b)=some (.I (a*b)):=by
 rcases ha with rfl|rfl|rfl<;>rcases hb with rfl|rfl|rfl<;>rfl
theorem qkO{a b:RV}{k:Nat}(ha:ROk k a)(hb:ROk k b)(fa:a.fr=a)(fb:b.fr=b)(hk1:1<=k)(hk:k<2^36):AP af 153 [a.av,b.av]=some (.I (JA a b)):=by
 have fan:a.num.fr=a.num:=dc RV.num fa;have fad:a.den.fr=a.den:=dc RV.den fa;have fbn:b.num.fr=b.num:=dc RV.num fb;have fbd:b.den.fr=b.den:=dc RV.den fb;have l1:(aG (a.num.v*b.den.v)).length<2^40:=jQ (pL (fC ha.num.v_len ha.ln) (fC hb.den.v_len hb.ld)) aa;have l2:(aG (b.num.v*a.den.v)).length<2^40:=jQ (pL (fC hb.num.v_len hb.ln) (fC ha.den.v_len ha.ld)) aa;have e1:=zU ha.num hb.den;have e2:=zU hb.num ha.den;have e3:=xU (x:=⟨false,.no,aG (a.num.v*b.den.v)⟩) (y:=⟨false,.no,aG (b.num.v*a.den.v)⟩) (vo l1) (vo l2);have v1:NV.v ⟨false,.no,aG (a.num.v*b.den.v)⟩=a.num.v*b.den.v:=gQ _;have v2:NV.v ⟨false,.no,aG (b.num.v*a.den.v)⟩=b.num.v*a.den.v:=gQ _;rw[v1,v2] at e3;have q1:∀(d:Option Nat) (mm:ai),aF (AP af) d mm 129 [a.av]=some (.I (jH a),mm):=fun d mm=>by rw[dw,fa,I9 ha];rfl
 have q2:∀(d:Option Nat) (mm:ai),aF (AP af) d mm 129 [b.av]=some (.I (jH b),mm):=fun d mm=>by rw[dw,fb,I9 hb];rfl
 have q3:∀(d:Option Nat) (mm:ai),aF (AP af) d mm 127 [a.num.av,b.den.av]=some (NV.av ⟨false,.no,aG (a.num.v*b.den.v)⟩,mm):=fun d mm=>by rw[dI,fan,fbd,e1];rfl
 have q4:∀(d:Option Nat) (mm:ai),aF (AP af) d mm 127 [b.num.av,a.den.av]=some (NV.av ⟨false,.no,aG (b.num.v*a.den.v)⟩,mm):=fun d mm=>by rw[dI,fbn,fad,e2];rfl
 have q5:∀(d:Option Nat) (mm:ai),aF (AP af) d mm 131 [NV.av ⟨false,.no,aG (a.num.v*b.den.v)⟩,NV.av ⟨false,.no,aG (b.num.v*a.den.v)⟩]=some (.I (gZ (a.num.v*b.den.v) (b.num.v*a.den.v)),mm):=fun d mm=>by
  rw[dI,show NV.fr ⟨false,.no,aG (a.num.v*b.den.v)⟩=⟨false,.no,aG (a.num.v*b.den.v)⟩ from rfl,show NV.fr ⟨false,.no,aG (b.num.v*a.den.v)⟩=⟨false,.no,aG (b.num.v*a.den.v)⟩ from rfl,e3];rfl
 refine cw _ _ (gJ _ _) rfl (m:=[cR a,cR b]) ?_;rw[qj5,dh,ae,dh,ae];simp only[bo,bF,ba,b6,bq];rw[nV (x:=a) rfl,ae,q1,ae,nV (x:=b) rfl,ae,q2,ae,bz,ae,aC];unfold JA
 by_cases c1:jH a<jH b
 .rw[aq c1,aq c1]
 .rw[an c1,an c1,gE,ae,aC]
  by_cases c2:jH a>jH b
  .rw[aq c2,aq c2]
  .rw[an c2,an c2,cF,ae,Lb (x:=a) rfl,ae,cH,ae,Ld (x:=b) rfl,ae,q3,ae,cF,ae,Lb (x:=b) rfl,ae,cH,ae,Ld (x:=a) rfl,ae,q4,ae,q5,ae,qra (qtF a) (qoQ _ _),ae]
theorem qcb(neg:Bool)(n:Nat):gg neg n=if neg then -(n:Int) else n:=by cases neg<;>rfl
theorem qoP(a b:RV):JA a b=0↔a.q=b.q:=by
 have key:∀r:RV,(jH r=0/\r.q=0)\/(r.num.v≠0/\r.den.v≠0/\r.q≠0/\jH r=if r.neg then -1 else 1):=by
  intro r
  by_cases h:r.num.v=0\/r.den.v=0
  .left;refine ⟨by unfold jH;rw[aq h],?_⟩
   rcases h with h|h
   .rw[RV.q,h,xq]
   .rw[RV.q,h,Bj]
  .right;refine ⟨fun e=>h (.inl e),fun e=>h (.inr e),?_,by unfold jH;rw[an h]⟩;intro e;have hd:r.den.v≠0:=fun e=>h (.inr e)
   have:gg r.neg r.num.v=0:=by
    have e':mkRat (gg r.neg r.num.v) r.den.v=0:=e;exact (Rat.mkRat_eq_zero hd).1 e'
   have h2:(gg r.neg r.num.v).natAbs=0:=by rw[this];rfl
   rw[Dj] at h2;exact h (.inl h2)
 unfold JA
 rcases key a with ⟨a1,a2⟩|⟨a1,a2,a3,a4⟩
 .rcases key b with ⟨b1,b2⟩|⟨b1,b2,b3,b4⟩
  .rw[a1,b1,a2,b2];simp
  .rw[a1,a2]
   constructor
   .intro h;rw[b4] at h;by_cases hb:b.neg=true<;>simp[hb] at h
   .intro h;exact absurd h.symm b3
 .rcases key b with ⟨b1,b2⟩|⟨b1,b2,b3,b4⟩
  .rw[b1,b2]
   constructor
   .intro h;rw[a4] at h;by_cases hb:a.neg=true<;>simp[hb] at h
   .intro h;exact absurd h a3
  .have hq:a.q=b.q↔gg a.neg a.num.v*(b.den.v:Int)=gg b.neg b.num.v*(a.den.v:Int):=Rat.mkRat_eq_iff a2 b2;rw[hq,a4,b4,qcb,qcb];have p1:0<a.num.v*b.den.v:=Nat.mul_pos aa aa;have p2:0<b.num.v*a.den.v:=Nat.mul_pos aa aa;have p1':(a.num.v:Int)*(b.den.v:Int)=((a.num.v*b.den.v:Nat):Int):=(ta _ _).symm;have p2':(b.num.v:Int)*(a.den.v:Int)=((b.num.v*a.den.v:Nat):Int):=(ta _ _).symm
   cases a.neg<;>cases b.neg
   .simp only[jJ,lp,p1',p2'];rw[an aa,an aa,Int.one_mul,Xz];omega
   .simp only[jJ,lp,bJ,Int.neg_mul,p1',p2'];rw[an aa,aq aa];omega
   .simp only[jJ,lp,bJ,Int.neg_mul,p1',p2'];rw[aq aa];omega
   .simp only[bJ,Int.neg_mul,p1',p2'];rw[an aa,an aa,Int.one_mul,Int.neg_eq_zero,Xz];omega
theorem VA{a b:RV}{k:Nat}(ha:ROk k a)(hb:ROk k b)(fa:a.fr=a)(fb:b.fr=b)(hk1:1<=k)(hk:k<2^36):AP af 113 [a.av,b.av]=some (.bool (decide (a.q=b.q))):=by
 have e:=qkO ha hb fa fb hk1 hk;refine cw (.bool (decide (a.q=b.q))) (.bool (decide (a.q=b.q))) (fun _=>rfl) rfl (m:=[cR a,cR b]) ?_;rw[qjD,dh,ae,dh,ae];simp only[bo,bF,ba,b6,bq];rw[nV (x:=a) rfl,ae,nV (x:=b) rfl,ae,cO,fa,fb,e,aQ,ae,iK,ae];rw[jm.2 (qoP a b)]
theorem Gw{m:ai}{x r:RV}:aP (some 3) (m++[cR x]) (.ptr m.length 0) r.av=some (m++[cR r]):=by
 rw[xy (oP:(m++[cR x])[m.length]?=some (cR x)),tg _ _ (aR _),qn,cW]
theorem qad{m:ai}{r:RV}:aj (some 3) (m++[cR r]) (.ptr m.length 0)=some r.av:=nV oP
theorem p7(m:ai):az none m (.B [.bool false,aD,aD])=(m.length,m++[cR zR]):=rfl
theorem VG{n:Nat}(h:n<9223372036854775808):AP af 154 [.I (n:Int)]=some (.tup [(cc n).av,.bool false]):=by
 refine cw _ _ (wC (wD n) (Pz false)) rfl (m:=[]) ?_;rw[qj6,KL,ae,j7,Cg aa,ae,dr,Ez aa];rfl
theorem qkB{a b:Nat}(ha:a<9223372036854775808)(hb:b<9223372036854775808)(h0:b≠0):∃r:RV,AP af 116 [.I (a:Int),.I (b:Int)]=some (.tup [r.av,.I 0])/\Can r (cT false a b)/\r.fr=r:=by
 have la:(aG a).length<=2:=oN aa;have lb:(aG b).length<=2:=oN aa
 rcases Jg false (iu (n:=a) aa) (iu (n:=b) aa) (by rw[fO];omega) (by rw[fO];omega) with ⟨h,_⟩|⟨_,r,e,h2,h3⟩
 .rw[fO] at h;exact absurd h h0
 .rw[fO,fO] at h2;refine ⟨r,(cw _ _ (Cr r (kn .i64 0)) rfl (m:=[cR r]) ?_).trans (by rw[h3]),h2,h3⟩;rw[qjF];simp only[Nat.reduceAdd,ae,aQ,dh,dS,cr,dC,dE,dj,dk,dT,dD,ba,bo,bF,dr,dL,VG ha,VG hb,jM,bne_self_eq_false,e]
end Go.Ab
namespace Go.Ab
noncomputable section
variable (a0 a1 a2 a3 x0 x1 x2 x3 x4 x5 x6 x7 x8 x9 aN aX aS aY aZ dV fh ji qf vH GW qE qg sX:AV) (m:ai) (K:KT)
open Go.Proofs.Tryz
def Nd:St:=⟨(aJ (x1::aJ (x3::bB (aO [])))),m⟩
def IT:St:=⟨(aK (x2::bB (aO (aJ [])))),m⟩
def HJ:OM:=bY 112 (b8 (c2 (c2 (c2 (aE f112))))) 5 (aJ (x1::aJ (x3::bC (qf::vH::GW::bC (aJ []))))) m K
abbrev qdO:KT:=bI 112 (bG (aE f112)) K
abbrev qdP:KT:=bw 0 (qdO K)
abbrev G7:KT:=(qdP K)
theorem qjC:AC af 112 [a0] m=(dp none (some 4) m a0).bind fun r1=>(aL 0 r1.1).bind fun v2=>(aj none r1.2 v2).bind fun v3=>(aM false v3).bind fun v4=>(ag .o .gtr v4 (.I 16)).bind fun v5=>aB v5 (some ((.bool false),r1.2)) ((aL 3 r1.1).bind fun v6=>(aj none r1.2 v6).bind fun v7=>(ag .o .lss v7 (.I 0)).bind fun v8=>aB v8 (some ((.bool false),r1.2)) ((aL 3 r1.1).bind fun v9=>(aj none r1.2 v9).bind fun v10=>(ag .o .gtr v10 (.I 2147483647)).bind fun v11=>aB v11 (some ((.bool false),r1.2)) ((aL 1 r1.1).bind fun v12=>(aj none r1.2 v12).bind fun bg=>(aM false bg).bind fun bf=>(ag .o .gtr bf (.I 4000)).bind fun bh=>aB bh (some ((.bool false),r1.2)) ((aL 2 r1.1).bind fun bK=>(aj none r1.2 bK).bind fun bH=>(aM false bH).bind fun cV=>(aL 1 r1.1).bind fun cP=>(aj none r1.2 cP).bind fun v20=>(aM false v20).bind fun v21=>(ag .o .neq cV v21).bind fun v22=>aB v22 (some ((.bool false),r1.2)) ((aL 0 r1.1).bind fun v23=>(aj none r1.2 v23).bind fun v24=>(aM false v24).bind fun v25=>HJ r1.1 (.lst none true .full []) v24 v25 (.I 0) r1.2 (G7 (aH f112))))))):=
(bm af 112 [a0] m (fn:=f112) (c:=aE f112) qme rfl).trans au
theorem Tm:HJ x1 x3 qf vH GW m K=(ag .o .lss GW vH).bind fun v1=>aB v1 ((aI none qf GW).bind fun v2=>(aj none m v2).bind fun v3=>(aM false v3).bind fun v4=>(ag .o .lss v4 (.I 1)).bind fun v5=>aB v5 (K .ret (IT (.bool false) m)) ((aM false v3).bind fun v6=>(ag .o .gtr v6 (.I 64)).bind fun v7=>aB v7 (K .ret (IT (.bool false) m)) ((aM false v3).bind fun v8=>(df none [v8]).bind fun v9=>(bL none false 3 none 8 m x3 v9).bind fun gG=>(ag .o .add GW (.I 1)).bind fun v11=>HJ x1 gG.1 qf vH v11 gG.2 K))) (K (.exit 0) (Nd x1 x3 m)):=
(bX (bQ _) _ _ _).trans au
theorem qdR:G7 (aH f112) (.exit 0) (Nd x1 x3 m)=(aL 0 x1).bind fun v1=>(aj none m v1).bind fun v2=>(aF (AP af) none m 63 [x3,v2]).bind fun r3=>aB r3.1 ((aL 1 x1).bind fun v4=>(aj none r3.2 v4).bind fun v5=>(aF (AP af) none r3.2 107 [x3,v5]).bind fun r6=>aB r6.1 ((aL 2 x1).bind fun v7=>(aj none r6.2 v7).bind fun v8=>(aF (AP af) none r6.2 150 [v8,(.fn 151 [])]).bind fun r9=>(gH .not r9.1).bind fun v10=>some (v10,r9.2)) (some ((.bool false),r6.2))) (some ((.bool false),r3.2)):=au
theorem qdQ:G7 (aH f112) .ret (IT x2 m)=some (x2,m):=au
def Na:St:=⟨(aV (x8::x9::bC (aO []))),m⟩
def HF:OM:=bY 110 (b8 (c2 (c2 (c2 (aE f110))))) 7 (x0::aK (x3::aJ (x5::aK (x8::x9::aV (aO (aJ (dV::fh::ji::br (aO [])))))))) m K
abbrev qdF:KT:=bI 110 (bG (aE f110)) K
abbrev qdG:KT:=bw 0 (qdF K)
abbrev Mf:KT:=(qdG K)
theorem qjA:AC af 110 [a0,a1,a2,a3] m=(dp none (some 3) m a1).bind fun r1=>(aL 0 r1.1).bind fun v2=>(aj none (az none r1.2 (.B [(.bool false),(.lst none true .full []),(.lst none true .full [])])).2 v2).bind fun v3=>(ag .o .lss v3 (.I 0)).bind fun v4=>aB v4 ((aL 2 r1.1).bind fun v5=>(aj none (az none r1.2 (.B [(.bool false),(.lst none true .full []),(.lst none true .full [])])).2 v5).bind fun v6=>(ag .o .eql v6 a2).bind fun v7=>aB v7 ((aF (AP af) none (az none r1.2 (.B [(.bool false),(.lst none true .full []),(.lst none true .full [])])).2 64 []).bind fun r8=>(aP (some 3) r8.2 (.ptr (az none r1.2 .resv).1 0) r8.1).bind fun m9=>(aj (some 3) m9 (.ptr (az none r1.2 .resv).1 0)).bind fun v10=>some (v10,m9)) ((aF (AP af) none (az none r1.2 (.B [(.bool false),(.lst none true .full []),(.lst none true .full [])])).2 114 []).bind fun jU=>(aP (some 3) jU.2 (.ptr (az none r1.2 .resv).1 0) jU.1).bind fun m12=>(aj (some 3) m12 (.ptr (az none r1.2 .resv).1 0)).bind fun bg=>some (bg,m12))) ((aF (AP af) none (az none r1.2 (.B [(.bool false),(.lst none true .full []),(.lst none true .full [])])).2 114 []).bind fun mh=>(aP (some 3) (az none mh.2 (.B [(.bool false),(.lst none true .full []),(.lst none true .full [])])).2 (.ptr (az none mh.2 .resv).1 0) mh.1).bind fun m15=>(aL 1 r1.1).bind fun bK=>(aj none m15 bK).bind fun bH=>(aM false bH).bind fun cV=>HF a0 a3 r1.1 (.ptr (az none r1.2 .resv).1 0) (.ptr (az none mh.2 .resv).1 0) bH cV (.I 0) m15 (Mf (aH f110))):=
(bm af 110 [a0,a1,a2,a3] m (fn:=f110) (c:=aE f110) qmc rfl).trans au
theorem Th:HF x0 x3 x5 x8 x9 dV fh ji m K=(ag .o .lss ji fh).bind fun v1=>aB v1 ((aI none dV ji).bind fun v2=>(aj none m v2).bind fun v3=>(aj (some 3) m x9).bind fun v4=>(aL 0 x5).bind fun v5=>(aj none m v5).bind fun v6=>(aI none x0 v6).bind fun v7=>(aj none m v7).bind fun v8=>(aF (AP af) (some m.length) m 70 [v8,ji]).bind fun r9=>(aI (some 3) x3 v3).bind fun v10=>(aj (some 3) r9.2 v10).bind fun v11=>(aF (AP af) (some m.length) r9.2 69 [r9.1,v11]).bind fun jV=>(aF (AP af) (some m.length) jV.2 71 [v4,jV.1]).bind fun gB=>(aP (some 3) gB.2 x9 gB.1).bind fun m14=>(ag .o .add ji (.I 1)).bind fun bh=>HF x0 x3 x5 x8 x9 dV fh bh m14 K) (K (.exit 0) (Na x8 x9 m)):=
(bX (bQ _) _ _ _).trans au
theorem qdH:Mf (aH f110) (.exit 0) (Na x8 x9 m)=(aj (some 3) m x9).bind fun v1=>(aP (some 3) m x8 v1).bind fun m2=>(aj (some 3) m2 x8).bind fun v3=>some (v3,m2):=au
def IE:St:=⟨(aJ (x1::bB (br (aV (aK []))))),m⟩
def uE:St:=⟨(aO (x4::bB (br (aO (aK (aJ [])))))),m⟩
def vL:OM:=bY 107 (b8 (c2 (aE f107))) 2 (x0::x1::aO (aK (aJ (x9::aN::aX::bB (br []))))) m K
def ID:St:=⟨(x0::x1::aO (aK (aJ (x9::aN::aX::bB (br []))))),m⟩
def Em:St:=⟨(aO (x4::bB (br (aO (aK (aJ [])))))),m⟩
def zB:OM:=bY 107 (rH (lH (lH (c2 (c1 (c2 (aE f107))))))) 10 (x0::x1::aK (aJ (x5::x6::aK (x9::aN::aX::bC (aV (aO (qE::qg::sX::bC (aJ [])))))))) m K
abbrev qds:KT:=bI 107 (c2 (c2 (aE f107))) K
abbrev qdt:KT:=bw 0 (qds K)
abbrev uw:KT:=(qdt K)
abbrev qdp:KT:=bI 107 (ma (nM (aE f107))) (nU 107 (b8 (c2 (aE f107))) 2 K)
abbrev qdq:KT:=bw 1 (qdp K)
abbrev qdr:KT:=bw 2 (qdq K)
abbrev BG:KT:=(qdr K)
theorem Ve:AC af 107 [a0,a1] m=(aM false a1).bind fun v1=>vL a0 a1 a1 v1 (.I 0) m (uw (aH f107)):=
(bm af 107 [a0,a1] m (fn:=f107) (c:=aE f107) ql8 rfl).trans au
theorem HE:vL x0 x1 x9 aN aX m K=(ag .o .lss aX aN).bind fun v1=>aB v1 ((aI (some 3) x9 aX).bind fun v2=>(aj (some 3) m v2).bind fun v3=>(aP (some 3) (az none m (.B [(.I 0),(.lst none true .full []),(.I 0)])).2 (.ptr (az none m .resv).1 0) v3).bind fun m4=>(aL 0 (.ptr (az none m .resv).1 0)).bind fun v5=>(aj none m4 v5).bind fun v6=>(ag .o .eql v6 (.I (-1))).bind fun v7=>aB v7 ((aL 1 (.ptr (az none m .resv).1 0)).bind fun v8=>(aj none m4 v8).bind fun v9=>(aM false v9).bind fun v10=>(ag .o .gtr v10 (.I 0)).bind fun v11=>aB v11 (K .ret (uE (.bool false) m4)) ((aL 2 (.ptr (az none m .resv).1 0)).bind fun v12=>(aj none m4 v12).bind fun bg=>(aF (AP af) none m4 94 [bg]).bind fun mh=>(gH .not mh.1).bind fun bh=>aB bh (K .ret (uE (.bool false) mh.2)) ((ag .o .add aX (.I 1)).bind fun bK=>vL x0 x1 x9 aN bK mh.2 K))) ((aL 0 (.ptr (az none m .resv).1 0)).bind fun bH=>(aj none m4 bH).bind fun cV=>(ag .o .lss cV (.I 0)).bind fun cP=>aB cP (K .ret (uE (.bool false) m4)) ((aL 0 (.ptr (az none m .resv).1 0)).bind fun v20=>(aj none m4 v20).bind fun v21=>(aM false x0).bind fun v22=>(ag .o .geq v21 v22).bind fun v23=>aB v23 (K .ret (uE (.bool false) m4)) ((aL 2 (.ptr (az none m .resv).1 0)).bind fun v24=>(aj none m4 v24).bind fun v25=>(ag .o .neq v25 (.I 0)).bind fun v26=>aB v26 (K .ret (uE (.bool false) m4)) ((aL 1 (.ptr (az none m .resv).1 0)).bind fun iR=>(aj none m4 iR).bind fun v28=>(aM false v28).bind fun jh=>(aL 0 (.ptr (az none m .resv).1 0)).bind fun v30=>(aj none m4 v30).bind fun v31=>(aI none x0 v31).bind fun jN=>(aj none m4 jN).bind fun kR=>(ag .o .neq jh kR).bind fun nC=>aB nC (K .ret (uE (.bool false) m4)) ((aL 1 (.ptr (az none m .resv).1 0)).bind fun kF=>(aj none m4 kF).bind fun se=>(aM false se).bind fun v37=>zB x0 x1 aX (.ptr (az none m .resv).1 0) x9 aN aX se v37 (.I 0) m4 (BG K))))))) (K (.exit 0) (IE x1 m)):=
(bX (bQ _) _ _ _).trans au
theorem HD:zB x0 x1 x5 x6 x9 aN aX qE qg sX m K=(ag .o .lss sX qg).bind fun v1=>aB v1 ((aI none qE sX).bind fun v2=>(aj none m v2).bind fun v3=>(ag .o .lss v3 (.I 0)).bind fun v4=>aB v4 (K .ret (Em (.bool false) m)) ((ag .o .geq v3 x5).bind fun v5=>aB v5 (K .ret (Em (.bool false) m)) ((aI (some 3) x1 v3).bind fun v6=>(aL 0 v6).bind fun v7=>(aj none m v7).bind fun v8=>(ag .o .geq v8 (.I 0)).bind fun v9=>aB v9 ((aI (some 3) x1 v3).bind fun v10=>(aL 0 v10).bind fun v11=>(aj none m v11).bind fun v12=>(aL 0 x6).bind fun bg=>(aj none m bg).bind fun bf=>(ag .o .leq v12 bf).bind fun bh=>aB bh (K .ret (Em (.bool false) m)) ((ag .o .add sX (.I 1)).bind fun bK=>zB x0 x1 x5 x6 x9 aN aX qE qg bK m K)) ((ag .o .add sX (.I 1)).bind fun bH=>zB x0 x1 x5 x6 x9 aN aX qE qg bH m K)))) (K (.exit 2) (ID x0 x1 x9 aN aX m)):=
(bX (bQ _) _ _ _).trans au
theorem SR:uw (aH f107) (.exit 0) (IE x1 m)=(aM false x1).bind fun v1=>(ag .o .gtr v1 (.I 0)).bind fun v2=>some (v2,m):=au
theorem ux:uw (aH f107) .ret (uE x4 m)=some (x4,m):=au
theorem SQ:BG K (.exit 2) (ID x0 x1 x9 aN aX m)=(ag .o .add aX (.I 1)).bind fun v1=>vL x0 x1 x9 aN v1 m K:=au
theorem G5:BG K .ret (Em x4 m)=K .ret (uE x4 m):=au
theorem qj2:AC af 150 [a0,a1] m=(aF (AP af) none m 180 [a0,a1]).bind fun r1=>(ag .o .geq r1.1 (.I 0)).bind fun v2=>some (v2,r1.2):=
(bm af 150 [a0,a1] m (fn:=f150) (c:=aE f150) qmM rfl).trans au
theorem qj3:AC af 151 [a0] m=(dp none (some 3) m a0).bind fun r1=>(aj (some 3) r1.2 r1.1).bind fun v2=>(aF (AP af) none r1.2 152 [v2]).bind fun r3=>(gH .not r3.1).bind fun v4=>some (v4,r3.2):=
(bm af 151 [a0] m (fn:=f151) (c:=aE f151) qmN rfl).trans au
def Ei:St:=⟨(br (aK (aJ []))),m⟩
def B8:St:=⟨(aO (x4::aV (aO (aK [])))),m⟩
def BQ:OM:=bY 180 (b8 (c2 (aE f180))) 2 (x0::x1::aO (aJ (x7::x8::aV (aK [])))) m K
abbrev qgm:KT:=bI 180 (c2 (c2 (aE f180))) K
abbrev qgn:KT:=bw 0 (qgm K)
abbrev Hl:KT:=(qgn K)
theorem Vq:AC af 180 [a0,a1] m=(aM false a0).bind fun v1=>BQ a0 a1 v1 (.I 0) m (Hl (aH f180)):=
(bm af 180 [a0,a1] m (fn:=f180) (c:=aE f180) qnb rfl).trans au
theorem Ub:BQ x0 x1 x7 x8 m K=(ag .o .lss x8 x7).bind fun v1=>aB v1 ((aI (some 3) x0 x8).bind fun v2=>(aj (some 3) m v2).bind fun v3=>(kI x1).bind fun g4=>jZ af 180 (AP af) (AC af) none g4.1 ([v3]++g4.2) m fun v5 m6=>aB v5 (K .ret (B8 x8 m6)) ((ag .o .add x8 (.I 1)).bind fun v7=>BQ x0 x1 x7 v7 m6 K)) (K (.exit 0) (Ei m)):=
(bX (bQ _) _ _ _).trans au
theorem qgp:Hl (aH f180) (.exit 0) (Ei  m)=some ((.I (-1)),m):=au
theorem qgo:Hl (aH f180) .ret (B8 x4 m)=some (x4,m):=au
def N4:St:=⟨(aJ (x1::x2::bC (aV (aO [])))),m⟩
def IZ:St:=⟨(aK (x2::x3::x4::bC (aV (aK [])))),m⟩
def BU:OM:=bY 53 (b8 (c2 (c2 (aE f53)))) 4 (aJ (x1::x2::aV (aJ (aS::aY::aZ::bC [])))) m K
abbrev qhN:KT:=bI 53 (c2 (c2 (c2 (aE f53)))) K
abbrev qhO:KT:=bw 0 (qhN K)
abbrev Hv:KT:=(qhO K)
theorem T53:AC af 53 [a0] m=(dp none (some 4) m a0).bind fun r1=>(aj (some 4) (az none r1.2 (.B [(.bool false),(.lst none true .full []),(.lst none true .full [])])).2 r1.1).bind fun v2=>(aF (AP af) none (az none r1.2 (.B [(.bool false),(.lst none true .full []),(.lst none true .full [])])).2 112 [v2]).bind fun r3=>(gH .not r3.1).bind fun v4=>aB v4 ((fR (.agg [(.bool false),(.lst none true .full []),(.lst none true .full [])]) []).bind fun v5=>(aP (some 3) r3.2 (.ptr (az none r1.2 .resv).1 0) v5).bind fun m6=>(aj (some 3) m6 (.ptr (az none r1.2 .resv).1 0)).bind fun v7=>some ((.tup [v7,(.I 0),(.I 1)]),m6)) ((aL 1 r1.1).bind fun v8=>(aj none r3.2 v8).bind fun v9=>(aM false v9).bind fun v10=>BU r1.1 (.ptr (az none r1.2 .resv).1 0) v9 v10 (.I 0) r3.2 (Hv (aH f53))):=
(bm af 53 [a0] m (fn:=f53) (c:=aE f53) qnF rfl).trans au
theorem Uv:BU x1 x2 aS aY aZ m K=(ag .o .lss aZ aY).bind fun v1=>aB v1 ((aI (some 3) aS aZ).bind fun v2=>(aj (some 3) m v2).bind fun v3=>(aP (some 3) (az none m (.B [(.I 0),(.lst none true .full []),(.I 0)])).2 (.ptr (az none m .resv).1 0) v3).bind fun m4=>(aL 2 x1).bind fun v5=>(aj none m4 v5).bind fun v6=>(aI (some 3) v6 aZ).bind fun v7=>(aj (some 3) m4 v7).bind fun v8=>(aL 0 x1).bind fun v9=>(aj none m4 v9).bind fun v10=>(aj (some 3) m4 (.ptr (az none m .resv).1 0)).bind fun v11=>(aL 3 x1).bind fun v12=>(aj none m4 v12).bind fun bg=>(aL 2 x1).bind fun bf=>(aj none m4 bf).bind fun bh=>(aF (AP af) (some m4.length) m4 110 [v10,v11,bg,bh]).bind fun gW=>(aF (AP af) (some m4.length) gW.2 113 [v8,gW.1]).bind fun nw=>(gH .not nw.1).bind fun cV=>aB cV ((fR (.agg [(.bool false),(.lst none true .full []),(.lst none true .full [])]) []).bind fun cP=>(aP (some 3) nw.2 x2 cP).bind fun m20=>K .ret (IZ x2 aZ (.I 32) m20)) ((ag .o .add aZ (.I 1)).bind fun v21=>BU x1 x2 aS aY v21 nw.2 K)) (K (.exit 0) (N4 x1 x2 m)):=
(bX (bQ _) _ _ _).trans au
theorem qhQ:Hv (aH f53) (.exit 0) (N4 x1 x2 m)=(aL 2 x1).bind fun v1=>(aj none m v1).bind fun v2=>(aL 2 x1).bind fun v3=>(aj none m v3).bind fun v4=>(aM false v4).bind fun v5=>(ag .o .sub v5 (.I 1)).bind fun v6=>(aI (some 3) v2 v6).bind fun v7=>(aj (some 3) m v7).bind fun v8=>(aF (AP af) (some m.length) m 114 []).bind fun r9=>(aF (AP af) (some m.length) r9.2 71 [v8,r9.1]).bind fun gG=>(aP (some 3) gG.2 x2 gG.1).bind fun m11=>(aj (some 3) m11 x2).bind fun v12=>some ((.tup [v12,(.I 0),(.I 0)]),m11):=au
theorem qhP:Hv (aH f53) .ret (IZ x2 x3 x4 m)=(aj (some 3) m x2).bind fun v1=>some ((.tup [v1,x3,x4]),m):=au
end
end Go.Ab
namespace Go.Ab
noncomputable section
variable (a0 a1 a2 x0 x1 x2 x3 x4 x5 x6 x7 x8 aN aX aS fH c9 fw dU dV fh kS kT kg GZ G0 BA LP LQ GP:AV) (m:ai) (K:KT)
open Go.Proofs.Tryz
def N9:St:=⟨(bC (br (aK []))),m⟩
def Et:St:=⟨(aO (x4::bC (aV (aO (aJ []))))),m⟩
def Ip:OM:=bY 63 (b8 (c2 (c2 (aE f63)))) 4 (x0::aV (aO (aK (fH::c9::fw::bC [])))) m K
def Oa:St:=⟨(x0::aO (x5::x6::x7::aO (aK (aJ (fH::c9::fw::bC []))))),m⟩
def I1:St:=⟨(aO (x4::bC (aV (aO (aJ []))))),m⟩
def Iq:OM:=bY 63 (b8 (lH (lH (qP (aE f63))))) 8 (x0::aO (x5::x6::x7::aO (aK (aJ (fH::c9::fw::aO (dU::dV::fh::br (aV (aJ [])))))))) m K
abbrev qid:KT:=bI 63 (c2 (c2 (c2 (aE f63)))) K
abbrev qie:KT:=bw 0 (qid K)
abbrev MQ:KT:=(qie K)
abbrev qih:KT:=bI 63 (ma (nM (c2 (aE f63)))) (nU 63 (b8 (c2 (c2 (aE f63)))) 4 K)
abbrev qii:KT:=bw 1 (qih K)
abbrev qij:KT:=bI 63 (ma (Ck (nM (c2 (aE f63))))) (qii K)
abbrev qik:KT:=bw 2 (qij K)
abbrev Hy:KT:=(qik K)
theorem T63:AC af 63 [a0,a1] m=(aM false a1).bind fun v1=>(aM false a0).bind fun v2=>(ag .o .neq v1 v2).bind fun v3=>aB v3 (some ((.bool false),m)) ((aM false a1).bind fun v4=>Ip a0 a1 v4 (.I 0) m (MQ (aH f63))):=
(bm af 63 [a0,a1] m (fn:=f63) (c:=aE f63) qnN rfl).trans au
theorem UC:Ip x0 fH c9 fw m K=(ag .o .lss fw c9).bind fun v1=>aB v1 ((aI none fH fw).bind fun v2=>(aj none m v2).bind fun v3=>(aM false v3).bind fun v4=>Iq x0 fw v3 (.I 0) fH c9 fw v3 v4 (.I 0) m (Hy K)) (K (.exit 0) (N9 m)):=
(bX (bQ _) _ _ _).trans au
theorem UD:Iq x0 x5 x6 x7 fH c9 fw dU dV fh m K=(ag .o .lss fh dV).bind fun v1=>aB v1 ((aI none dU fh).bind fun v2=>(aj none m v2).bind fun v3=>(ag .o .lss v3 (.I 0)).bind fun v4=>aB v4 (K .ret (I1 (.bool false) m)) ((ag .o .gtr v3 (.I 1000)).bind fun v5=>aB v5 (K .ret (I1 (.bool false) m)) ((ag .o .add x7 v3).bind fun v6=>(ag .o .add fh (.I 1)).bind fun v7=>Iq x0 x5 x6 v6 fH c9 fw dU dV v7 m K))) (K (.exit 2) (Oa x0 x5 x6 x7 fH c9 fw m)):=
(bX (bQ _) _ _ _).trans au
theorem qig:MQ (aH f63) (.exit 0) (N9  m)=some ((.bool true),m):=au
theorem qif:MQ (aH f63) .ret (Et x4 m)=some (x4,m):=au
theorem qim:Hy K (.exit 2) (Oa x0 x5 x6 x7 fH c9 fw m)=(aM false x6).bind fun v1=>(aI none x0 x5).bind fun v2=>(aj none m v2).bind fun v3=>(ag .o .neq v1 v3).bind fun v4=>aB v4 (K .ret (Et (.bool false) m)) ((ag .o .eql x7 (.I 0)).bind fun v5=>aB v5 (K .ret (Et (.bool false) m)) ((ag .o .add fw (.I 1)).bind fun v6=>Ip x0 fH c9 v6 m K)):=au
theorem qil:Hy K .ret (I1 x4 m)=K .ret (Et x4 m):=au
def Ob:St:=⟨(x0::x1::aK (x4::x5::br (aV []))),m⟩
def Ir:OM:=bY 70 (b8 (c2 (c2 (aE f70)))) 3 (x0::x1::aK (x4::x5::aO (aN::aX::aS::br (aJ [])))) m K
abbrev qin:KT:=bI 70 (c2 (c2 (c2 (aE f70)))) K
abbrev qio:KT:=bw 0 (qin K)
abbrev MR:KT:=(qio K)
theorem T70:AC af 70 [a0,a1] m=(aM false a0).bind fun v1=>Ir a0 a1 (.ptr (az none m .resv).1 0) (.I 0) a0 v1 (.I 0) (az none m (.B [(.bool false),aD,aD])).2 (MR (aH f70)):=
(bm af 70 [a0,a1] m (fn:=f70) (c:=aE f70) qnU rfl).trans au
theorem UE:Ir x0 x1 x4 x5 aN aX aS m K=(ag .o .lss aS aX).bind fun v1=>aB v1 ((aI none aN aS).bind fun v2=>(aj none m v2).bind fun v3=>(ag .o .add x5 v3).bind fun v4=>(ag .o .add aS (.I 1)).bind fun v5=>Ir x0 x1 x4 v4 aN aX v5 m K) (K (.exit 0) (Ob x0 x1 x4 x5 m)):=
(bX (bQ _) _ _ _).trans au
theorem qip:MR (aH f70) (.exit 0) (Ob x0 x1 x4 x5 m)=(aI none x0 x1).bind fun v1=>(aj none m v1).bind fun v2=>(aF (AP af) none m 128 [v2,x5]).bind fun r3=>(a8 r3.1 0).bind fun v4=>(a8 r3.1 1).bind fun v5=>(aP (some 3) (az none r3.2 (.B [(.bool false),aD,aD])).2 (.ptr (az none r3.2 .resv).1 0) v4).bind fun m6=>(aj (some 3) m6 (.ptr (az none r3.2 .resv).1 0)).bind fun v7=>(aP (some 3) m6 x4 v7).bind fun m8=>(aj (some 3) m8 x4).bind fun v9=>some (v9,m8):=au
theorem T67:AC af 67 [a0,a1,a2] m=(aj none m a2).bind fun v1=>(aj none m a2).bind fun v2=>(AC af 68 [v1,a0] m).bind fun r3=>w6 ((aj none r3.2 a2).bind (fun v=>some (v,r3.2))=some (v2,r3.2)) ((AC af 68 [v2,a1] r3.2).bind fun r4=>(ag .o .sub r3.1 r4.1).bind fun v5=>some (v5,r4.2)):=
(bm af 67 [a0,a1,a2] m (fn:=f67) (c:=aE f67) qnR rfl).trans au
def NH:St:=⟨(aV (x8::aK (aJ (aS::bB (bC (aV (aO (aK [])))))))),m⟩
def BP:OM:=bY 17 (b8 (bG (bG (aE f17)))) 11 (aK (x2::x3::aO (x8::aJ (aN::aJ (aS::bC (aO (aK (aJ (kS::kT::kg::bB (aO [])))))))))) m K
def IM:St:=⟨(aK (x2::x3::aO (x8::aJ (aN::aJ (aS::bC (aO (aK (aJ (kS::kT::kg::bB (aO [])))))))))),m⟩
def ry:OM:=bY 17 (rH (lH (lH (qP (bG (c2 (c2 (aE f17)))))))) 17 (aK (x2::x3::aO (x8::aJ (aN::aJ (aS::aK (fH::c9::bC (aK (aJ (kS::kT::kg::br (aO (aJ (GZ::G0::BA::bC (aV (aO [])))))))))))))) m K
def NI:St:=⟨(br (aO (aK (dU::bB (bC (aO [])))))),m⟩
def DY:OM:=bY 17 (b8 (bG (bG (c2 (c2 (aE f17)))))) 28 (aV (aO (aS::aV (aJ (dU::bB (br (aO (LP::LQ::GP::aV (aO (aJ [])))))))))) m K
abbrev qgc:KT:=bI 17 (bG (bG (c2 (aE f17)))) K
abbrev qgd:KT:=bw 0 (qgc K)
abbrev Hj:KT:=(qgd K)
abbrev qgg:KT:=bI 17 (ma (nM (bG (c2 (c2 (c2 (aE f17))))))) (nU 17 (b8 (bG (bG (aE f17)))) 11 K)
abbrev qgh:KT:=bw 1 (qgg K)
abbrev qgi:KT:=bw 2 (qgh K)
abbrev zw:KT:=(qgi K)
abbrev qgj:KT:=bI 17 (bG (bG (c2 (c2 (c2 (aE f17)))))) K
abbrev qgk:KT:=bw 4 (qgj K)
abbrev Hk:KT:=(qgk K)
theorem T17:AC af 17 [a0,a1,a2] m=(dp none none m a0).bind fun r1=>(aj none r1.2 r1.1).bind fun v2=>(AC af 41 [v2,a1] r1.2).bind fun r3=>(a8 r3.1 0).bind fun v4=>(a8 r3.1 1).bind fun v5=>(ag .o .neq v5 (.I 0)).bind fun v6=>aB v6 (some ((.tup [aD,v5]),r3.2)) ((aj none r3.2 r1.1).bind fun v7=>(jb v7).bind fun v8=>(aL 0 v8).bind fun v9=>(aj none r3.2 v9).bind fun v10=>(aF (AP af) none r3.2 63 [v10,a2]).bind fun jU=>(gH .not jU.1).bind fun v12=>aB v12 (some ((.tup [aD,(.I 1)]),jU.2)) ((aF (AP af) none (az none jU.2 (.mp (.int .i64) [])).2 64 []).bind fun gB=>(lY (.int .i64) gB.2 (.mref (az none jU.2 .resv).1) a1 gB.1).bind fun m14=>(aj none m14 r1.1).bind fun bh=>(AC af 65 [bh,a1] m14).bind fun gW=>(AC af 66 [gW.1,(.fn 67 [r1.1])] gW.2).bind fun nw=>(aM false gW.1).bind fun cV=>BP a2 r1.1 v4 (.mref (az none jU.2 .resv).1) (.mref (az none nw.2 .resv).1) gW.1 cV (.I 0) (az none nw.2 (.mp (.int .i64) [])).2 (Hj (aH f17)))):=
(bm af 17 [a0,a1,a2] m (fn:=f17) (c:=aE f17) qm6 rfl).trans au
theorem T8:BP x2 x3 x8 aN aS kS kT kg m K=(ag .o .lss kg kT).bind fun v1=>aB v1 ((aI none kS kg).bind fun v2=>(aj none m v2).bind fun v3=>(aj none (bV m 2) x3).bind fun v4=>(jb v4).bind fun v5=>(aL 1 v5).bind fun v6=>(aj none (bV m 2) v6).bind fun v7=>(aI (some 3) v7 v3).bind fun v8=>(aj (some 3) (bV m 2) v8).bind fun v9=>(p6 (.int .i64) (.agg [(.bool false),aD,aD]) (bV m 2) aN v3).bind fun q10=>(aP (some 3) (az (some (m.length+1)) (az (some m.length) (bV m 2) (.B [(.I 0),aD,(.I 0)])).2 (.B [(.bool false),aD,aD])).2 (.ptr (az (some m.length) (bV m 2) .resv).1 0) v9).bind fun m11=>(aP (some 3) m11 (.ptr (az (some (m.length+1)) (az (some m.length) (bV m 2) (.B [(.I 0),aD,(.I 0)])).2 .resv).1 0) q10.1).bind fun m12=>(aL 0 (.ptr (az (some m.length) (bV m 2) .resv).1 0)).bind fun bg=>(aj none m12 bg).bind fun bf=>(ag .o .lss bf (.I 0)).bind fun bh=>aB bh ((aL 2 (.ptr (az (some m.length) (bV m 2) .resv).1 0)).bind fun bK=>(aj none m12 bK).bind fun bH=>(aj (some 3) m12 (.ptr (az (some (m.length+1)) (az (some m.length) (bV m 2) (.B [(.I 0),aD,(.I 0)])).2 .resv).1 0)).bind fun cV=>(lY (.int .i64) m12 aS bH cV).bind fun m19=>(aL 1 (.ptr (az (some m.length) (bV m 2) .resv).1 0)).bind fun v20=>(aj none m19 v20).bind fun v21=>(aM false v21).bind fun v22=>ry x2 x3 x8 aN aS (.ptr (az (some m.length) (bV m 2) .resv).1 0) (.ptr (az (some (m.length+1)) (az (some m.length) (bV m 2) (.B [(.I 0),aD,(.I 0)])).2 .resv).1 0) kS kT kg v21 v22 (.I 0) m19 (zw K)) ((aL 1 (.ptr (az (some m.length) (bV m 2) .resv).1 0)).bind fun v23=>(aj none m12 v23).bind fun v24=>(aM false v24).bind fun v25=>ry x2 x3 x8 aN aS (.ptr (az (some m.length) (bV m 2) .resv).1 0) (.ptr (az (some (m.length+1)) (az (some m.length) (bV m 2) (.B [(.I 0),aD,(.I 0)])).2 .resv).1 0) kS kT kg v24 v25 (.I 0) m12 (zw K))) (K (.exit 0) (NH x8 aS m)):=
(bX (bQ _) _ _ _).trans au
theorem MZ:ry x2 x3 x8 aN aS fH c9 kS kT kg GZ G0 BA m K=(ag .o .lss BA G0).bind fun v1=>aB v1 ((aI none GZ BA).bind fun v2=>(aj none m v2).bind fun v3=>(aj (some 3) (bV m 1) c9).bind fun v4=>(aL 0 fH).bind fun v5=>(aj none (bV m 1) v5).bind fun v6=>(aI none x2 v6).bind fun v7=>(aj none (bV m 1) v7).bind fun v8=>(aF (AP af) (some m.length) (bV m 1) 70 [v8,BA]).bind fun r9=>(aF (AP af) (some m.length) r9.2 69 [v4,r9.1]).bind fun gG=>(aP (some 3) (az (some m.length) gG.2 (.B [(.bool false),aD,aD])).2 (.ptr (az (some m.length) gG.2 .resv).1 0) gG.1).bind fun m11=>(p6 (.int .i64) (.agg [(.bool false),aD,aD]) m11 aN v3).bind fun q12=>(a8 (.tup [q12.1,.bool q12.2]) 0).bind fun bg=>(a8 (.tup [q12.1,.bool q12.2]) 1).bind fun bf=>(aP (some 3) (az none m11 (.B [(.bool false),aD,aD])).2 (.ptr (az none m11 .resv).1 0) bg).bind fun m15=>aB bf ((aj (some 3) m15 (.ptr (az none m11 .resv).1 0)).bind fun bK=>(aj (some 3) m15 (.ptr (az (some m.length) gG.2 .resv).1 0)).bind fun bH=>(aF (AP af) none m15 71 [bK,bH]).bind fun ij=>(aP (some 3) ij.2 (.ptr (az (some m.length) gG.2 .resv).1 0) ij.1).bind fun m19=>(aj (some 3) m19 (.ptr (az (some m.length) gG.2 .resv).1 0)).bind fun v20=>(lY (.int .i64) m19 aN v3 v20).bind fun m21=>(ag .o .add BA (.I 1)).bind fun v22=>ry x2 x3 x8 aN aS fH c9 kS kT kg GZ G0 v22 m21 K) ((aj (some 3) m15 (.ptr (az (some m.length) gG.2 .resv).1 0)).bind fun v23=>(lY (.int .i64) m15 aN v3 v23).bind fun m24=>(ag .o .add BA (.I 1)).bind fun v25=>ry x2 x3 x8 aN aS fH c9 kS kT kg GZ G0 v25 m24 K)) (K (.exit 2) (IM x2 x3 x8 aN aS kS kT kg m)):=
(bX (bQ _) _ _ _).trans au
theorem Ua:DY aS dU LP LQ GP m K=(ag .o .lss GP LQ).bind fun v1=>aB v1 ((aI none LP GP).bind fun v2=>(aj none m v2).bind fun v3=>(p6 (.int .i64) (.agg [(.bool false),aD,aD]) m aS v3).bind fun q4=>(fR (.agg [(.I 0),(.bool false),aD,aD]) [(0,none,v3),(1,(some 3),q4.1)]).bind fun v5=>(df (some 4) [v5]).bind fun v6=>(bL none false 46 (some 4) 64 m dU v6).bind fun r7=>(ag .o .add GP (.I 1)).bind fun v8=>DY aS r7.1 LP LQ v8 r7.2 K) (K (.exit 4) (NI dU m)):=
(bX (bQ _) _ _ _).trans au
theorem qgf:Hj (aH f17) (.exit 0) (NH x8 aS m)=(aM false x8).bind fun v1=>DY aS aD x8 v1 (.I 0) m (Hk (aH f17)):=au
theorem S8:zw K (.exit 2) (IM x2 x3 x8 aN aS kS kT kg m)=(ag .o .add kg (.I 1)).bind fun v1=>BP x2 x3 x8 aN aS kS kT v1 m K:=au
theorem qgl:Hk (aH f17) (.exit 4) (NI dU m)=some ((.tup [dU,(.I 0)]),m):=au
end
end Go.Ab
namespace Go.Ab
noncomputable section
variable (a0 a1 x0 x1 x2 x3 x4 x5 x6 x7 x8 x9 aN aX aS aY xE qf vH qD vI Dy kS kT kg GX GY Dz:AV) (m:ai) (K:KT)
open Go.Proofs.Tryz
def NK:St:=⟨(aK (aJ (x3::aV (aO (aK (aJ [])))))),m⟩
def Ic:OM:=bY 184 (b8 (c2 (c2 (aE f184)))) 3 (aK (aJ (x3::aK (x6::x7::x8::aV (aK []))))) m K
abbrev qgt:KT:=bI 184 (c2 (c2 (c2 (aE f184)))) K
abbrev qgu:KT:=bw 0 (qgt K)
abbrev MC:KT:=(qgu K)
theorem qko:AC af 184 [a0] m=(aM false a0).bind fun v1=>Ic (.lst none true .full []) a0 v1 (.I 0) m (MC (aH f184)):=
(bm af 184 [a0] m (fn:=f184) (c:=aE f184) qnf rfl).trans au
theorem Uc:Ic x3 x6 x7 x8 m K=(ag .o .lss x8 x7).bind fun v1=>aB v1 ((aI none x6 x8).bind fun v2=>(aj none m v2).bind fun v3=>(aM false v3).bind fun v4=>(df none [v4]).bind fun v5=>(bL none false 3 none 8 m x3 v5).bind fun r6=>(ag .o .add x8 (.I 1)).bind fun v7=>Ic r6.1 x6 x7 v7 r6.2 K) (K (.exit 0) (NK x3 m)):=
(bX (bQ _) _ _ _).trans au
theorem qgv:MC (aH f184) (.exit 0) (NK x3 m)=some (x3,m):=au
def IN:St:=⟨(aJ (x1::bB (br (aV (aO (aK [])))))),m⟩
def tj:St:=⟨(aO (x4::bB (br (aV (aK (aJ [])))))),m⟩
def BR:OM:=bY 185 (b8 (c2 (aE f185))) 2 (x0::x1::aO (aK (aJ (x9::aN::aX::bB (br (aO [])))))) m K
def NM:St:=⟨(x0::x1::aO (aK (aJ (x9::aN::aX::bB (br (aO [])))))),m⟩
def Ep:St:=⟨(aO (x4::bB (br (aV (aK (aJ [])))))),m⟩
def DZ:OM:=bY 185 (rH (lH (lH (c2 (c1 (c2 (aE f185))))))) 10 (x0::x1::aK (aJ (x5::x6::aK (x9::aN::aX::bC (br (GX::GY::Dz::bC (aJ []))))))) m K
abbrev qgB:KT:=bI 185 (c2 (c2 (aE f185))) K
abbrev qgC:KT:=bw 0 (qgB K)
abbrev Hm:KT:=(qgC K)
abbrev qgw:KT:=bI 185 (ma (nM (aE f185))) (nU 185 (b8 (c2 (aE f185))) 2 K)
abbrev qgx:KT:=bw 1 (qgw K)
abbrev qgy:KT:=bw 2 (qgx K)
abbrev MD:KT:=(qgy K)
theorem qkp:AC af 185 [a0,a1] m=(aM false a1).bind fun v1=>BR a0 a1 a1 v1 (.I 0) m (Hm (aH f185)):=
(bm af 185 [a0,a1] m (fn:=f185) (c:=aE f185) qng rfl).trans au
theorem Ue:BR x0 x1 x9 aN aX m K=(ag .o .lss aX aN).bind fun v1=>aB v1 ((aI (some 3) x9 aX).bind fun v2=>(aj (some 3) m v2).bind fun v3=>(aP (some 3) (az none m (.B [(.I 0),(.lst none true .full []),(.I 0)])).2 (.ptr (az none m .resv).1 0) v3).bind fun m4=>(aL 0 (.ptr (az none m .resv).1 0)).bind fun v5=>(aj none m4 v5).bind fun v6=>(ag .o .eql v6 (.I (-1))).bind fun v7=>aB v7 ((aL 1 (.ptr (az none m .resv).1 0)).bind fun v8=>(aj none m4 v8).bind fun v9=>(aM false v9).bind fun v10=>(ag .o .neq v10 (.I 0)).bind fun v11=>aB v11 (K .ret (tj (.bool false) m4)) ((aL 2 (.ptr (az none m .resv).1 0)).bind fun v12=>(aj none m4 v12).bind fun bg=>(ag .o .lss bg (.I 0)).bind fun bf=>aB bf (K .ret (tj (.bool false) m4)) ((aL 2 (.ptr (az none m .resv).1 0)).bind fun bh=>(aj none m4 bh).bind fun bK=>(ag .o .gtr bK (.I 2147483647)).bind fun bH=>aB bH (K .ret (tj (.bool false) m4)) ((ag .o .add aX (.I 1)).bind fun cV=>BR x0 x1 x9 aN cV m4 K)))) ((aL 0 (.ptr (az none m .resv).1 0)).bind fun cP=>(aj none m4 cP).bind fun v20=>(ag .o .lss v20 (.I 0)).bind fun v21=>aB v21 (K .ret (tj (.bool false) m4)) ((aL 0 (.ptr (az none m .resv).1 0)).bind fun v22=>(aj none m4 v22).bind fun v23=>(aM false x0).bind fun v24=>(ag .o .geq v23 v24).bind fun v25=>aB v25 (K .ret (tj (.bool false) m4)) ((aL 2 (.ptr (az none m .resv).1 0)).bind fun v26=>(aj none m4 v26).bind fun iR=>(ag .o .neq iR (.I 0)).bind fun v28=>aB v28 (K .ret (tj (.bool false) m4)) ((aL 1 (.ptr (az none m .resv).1 0)).bind fun jh=>(aj none m4 jh).bind fun v30=>(aM false v30).bind fun v31=>(aL 0 (.ptr (az none m .resv).1 0)).bind fun jN=>(aj none m4 jN).bind fun kR=>(aI none x0 kR).bind fun nC=>(aj none m4 nC).bind fun kF=>(ag .o .neq v31 kF).bind fun se=>aB se (K .ret (tj (.bool false) m4)) ((aL 1 (.ptr (az none m .resv).1 0)).bind fun v37=>(aj none m4 v37).bind fun qe=>(aM false qe).bind fun rm=>DZ x0 x1 aX (.ptr (az none m .resv).1 0) x9 aN aX qe rm (.I 0) m4 (MD K))))))) (K (.exit 0) (IN x1 m)):=
(bX (bQ _) _ _ _).trans au
theorem Ud:DZ x0 x1 x5 x6 x9 aN aX GX GY Dz m K=(ag .o .lss Dz GY).bind fun v1=>aB v1 ((aI none GX Dz).bind fun v2=>(aj none m v2).bind fun v3=>(ag .o .lss v3 (.I 0)).bind fun v4=>aB v4 (K .ret (Ep (.bool false) m)) ((ag .o .geq v3 x5).bind fun v5=>aB v5 (K .ret (Ep (.bool false) m)) ((aI (some 3) x1 v3).bind fun v6=>(aL 0 v6).bind fun v7=>(aj none m v7).bind fun v8=>(ag .o .neq v8 (.I (-1))).bind fun v9=>aB v9 ((aI (some 3) x1 v3).bind fun v10=>(aL 0 v10).bind fun v11=>(aj none m v11).bind fun v12=>(aL 0 x6).bind fun bg=>(aj none m bg).bind fun bf=>(ag .o .leq v12 bf).bind fun bh=>aB bh (K .ret (Ep (.bool false) m)) ((ag .o .add Dz (.I 1)).bind fun bK=>DZ x0 x1 x5 x6 x9 aN aX GX GY bK m K)) ((ag .o .add Dz (.I 1)).bind fun bH=>DZ x0 x1 x5 x6 x9 aN aX GX GY bH m K)))) (K (.exit 2) (NM x0 x1 x9 aN aX m)):=
(bX (bQ _) _ _ _).trans au
theorem qgE:Hm (aH f185) (.exit 0) (IN x1 m)=(aM false x1).bind fun v1=>(ag .o .gtr v1 (.I 0)).bind fun v2=>some (v2,m):=au
theorem qgD:Hm (aH f185) .ret (tj x4 m)=some (x4,m):=au
theorem qgA:MD K (.exit 2) (NM x0 x1 x9 aN aX m)=(ag .o .add aX (.I 1)).bind fun v1=>BR x0 x1 x9 aN v1 m K:=au
theorem qgz:MD K .ret (Ep x4 m)=K .ret (tj x4 m):=au
def Nz:St:=⟨(bC (br (aV (aO (aK []))))),m⟩
def Ot:St:=⟨(aK (x2::bC (br (aV (aK (aJ [])))))),m⟩
def H4:OM:=bY 162 (b8 (c2 (c2 (c2 (aE f162))))) 5 (bC (br (aO (kS::kT::kg::aO (aK (aJ [])))))) m K
abbrev qfB:KT:=bI 162 (bG (aE f162)) K
abbrev qfC:KT:=bw 0 (qfB K)
abbrev Hh:KT:=(qfC K)
theorem qkd:AC af 162 [a0] m=(dp none (some 4) m a0).bind fun r1=>(aL 0 r1.1).bind fun v2=>(aj none r1.2 v2).bind fun v3=>(aF (AP af) none r1.2 184 [v3]).bind fun r4=>(aF (AP af) none r4.2 11 [r4.1]).bind fun r5=>(ag .o .neq r5.1 (.I 0)).bind fun v6=>aB v6 (some ((.bool false),r5.2)) ((aL 0 r1.1).bind fun v7=>(aj none r5.2 v7).bind fun v8=>(aF (AP af) none r5.2 18 [r4.1,v8]).bind fun r9=>(gH .not r9.1).bind fun v10=>aB v10 (some ((.bool false),r9.2)) ((aL 3 r1.1).bind fun v11=>(aj none r9.2 v11).bind fun v12=>(ag .o .lss v12 (.I 0)).bind fun bg=>aB bg (some ((.bool false),r9.2)) ((aL 3 r1.1).bind fun bf=>(aj none r9.2 bf).bind fun bh=>(ag .o .gtr bh (.I 2147483647)).bind fun bK=>aB bK (some ((.bool false),r9.2)) ((aL 1 r1.1).bind fun bH=>(aj none r9.2 bH).bind fun cV=>(aM false cV).bind fun cP=>(ag .o .gtr cP (.I 4000)).bind fun v20=>aB v20 (some ((.bool false),r9.2)) ((aL 1 r1.1).bind fun v21=>(aj none r9.2 v21).bind fun v22=>(aF (AP af) none r9.2 185 [r4.1,v22]).bind fun ka=>(gH .not ka.1).bind fun v24=>aB v24 (some ((.bool false),ka.2)) ((aL 2 r1.1).bind fun v25=>(aj none ka.2 v25).bind fun v26=>(aM false v26).bind fun iR=>(aL 1 r1.1).bind fun v28=>(aj none ka.2 v28).bind fun jh=>(aM false jh).bind fun v30=>(ag .o .neq iR v30).bind fun v31=>aB v31 (some ((.bool false),ka.2)) ((aL 2 r1.1).bind fun jN=>(aj none ka.2 jN).bind fun kR=>(aM false kR).bind fun nC=>H4 kR nC (.I 0) ka.2 (Hh (aH f162))))))))):=
(bm af 162 [a0] m (fn:=f162) (c:=aE f162) qmY rfl).trans au
theorem TO:H4 kS kT kg m K=(ag .o .lss kg kT).bind fun v1=>aB v1 ((aI (some 3) kS kg).bind fun v2=>(aj (some 3) m v2).bind fun v3=>(aP (some 3) (az none m (.B [(.bool false),(.lst none true .full []),(.lst none true .full [])])).2 (.ptr (az none m .resv).1 0) v3).bind fun m4=>(aj (some 3) m4 (.ptr (az none m .resv).1 0)).bind fun v5=>(aF (AP af) none m4 56 [v5]).bind fun r6=>(gH .not r6.1).bind fun v7=>aB v7 (K .ret (Ot (.bool false) r6.2)) ((ag .o .add kg (.I 1)).bind fun v8=>H4 kS kT v8 r6.2 K)) (K (.exit 0) (Nz m)):=
(bX (bQ _) _ _ _).trans au
theorem qfE:Hh (aH f162) (.exit 0) (Nz  m)=some ((.bool true),m):=au
theorem qfD:Hh (aH f162) .ret (Ot x2 m)=some (x2,m):=au
def Nc:St:=⟨(aK (x2::aJ (x4::x5::x6::x7::bB (aO (aK []))))),m⟩
def HH:OM:=bY 111 (b8 (bG (aE f111))) 8 (aK (x2::aJ (x4::x5::x6::x7::br (aV (aK (aJ (xE::qf::vH::bC (aV [])))))))) m K
def Nb:St:=⟨(aO (x4::aK (x7::bB (aO (aK []))))),m⟩
def HG:OM:=bY 111 (b8 (bG (c2 (aE f111)))) 13 (aK (x2::aJ (x4::x5::x6::x7::bC (aO (aK (qD::vI::Dy::br (aV (aO (aJ []))))))))) m K
abbrev qdL:KT:=bI 111 (bG (c2 (aE f111))) K
abbrev qdM:KT:=bw 0 (qdL K)
abbrev SU:KT:=(qdM K)
abbrev qdI:KT:=bI 111 (bG (c2 (c2 (aE f111)))) K
abbrev qdJ:KT:=bw 2 (qdI K)
abbrev Mg:KT:=(qdJ K)
theorem qjB:AC af 111 [a0,a1] m=(dp none (some 4) m a0).bind fun r1=>(aL 1 r1.1).bind fun v2=>(aj none (az none r1.2 (.B [(.bool false),(.lst none true .full []),(.lst none true .full [])])).2 v2).bind fun v3=>(aI (some 3) v3 a1).bind fun v4=>(aj (some 3) (az none r1.2 (.B [(.bool false),(.lst none true .full []),(.lst none true .full [])])).2 v4).bind fun v5=>(aP (some 3) (az none (az none r1.2 (.B [(.bool false),(.lst none true .full []),(.lst none true .full [])])).2 (.B [(.I 0),(.lst none true .full []),(.I 0)])).2 (.ptr (az none (az none r1.2 (.B [(.bool false),(.lst none true .full []),(.lst none true .full [])])).2 .resv).1 0) v5).bind fun m6=>(aL 0 (.ptr (az none (az none r1.2 (.B [(.bool false),(.lst none true .full []),(.lst none true .full [])])).2 .resv).1 0)).bind fun v7=>(aj none m6 v7).bind fun v8=>(ag .o .eql v8 (.I (-1))).bind fun v9=>aB v9 ((aL 2 (.ptr (az none (az none r1.2 (.B [(.bool false),(.lst none true .full []),(.lst none true .full [])])).2 .resv).1 0)).bind fun v10=>(aj none m6 v10).bind fun v11=>(aL 3 r1.1).bind fun v12=>(aj none m6 v12).bind fun bg=>(ag .o .eql v11 bg).bind fun bf=>aB bf ((aF (AP af) none m6 23 []).bind fun nt=>(aP (some 3) nt.2 (.ptr (az none r1.2 .resv).1 0) nt.1).bind fun m16=>(aj (some 3) m16 (.ptr (az none r1.2 .resv).1 0)).bind fun bH=>some (bH,m16)) ((aF (AP af) none m6 20 []).bind fun ij=>(aP (some 3) ij.2 (.ptr (az none r1.2 .resv).1 0) ij.1).bind fun m19=>(aj (some 3) m19 (.ptr (az none r1.2 .resv).1 0)).bind fun v20=>some (v20,m19))) ((aF (AP af) none m6 20 []).bind fun vt=>(aP (some 3) (az none vt.2 (.B [(.bool false),(.lst none true .full []),(.lst none true .full [])])).2 (.ptr (az none vt.2 .resv).1 0) vt.1).bind fun m22=>(aL 0 r1.1).bind fun v23=>(aj none m22 v23).bind fun v24=>(aL 0 (.ptr (az none (az none r1.2 (.B [(.bool false),(.lst none true .full []),(.lst none true .full [])])).2 .resv).1 0)).bind fun v25=>(aj none m22 v25).bind fun v26=>(aI none v24 v26).bind fun iR=>(aj none m22 iR).bind fun v28=>(aM false v28).bind fun jh=>HH r1.1 (.ptr (az none r1.2 .resv).1 0) (.ptr (az none (az none r1.2 (.B [(.bool false),(.lst none true .full []),(.lst none true .full [])])).2 .resv).1 0) (.I 0) (.ptr (az none vt.2 .resv).1 0) v28 jh (.I 0) m22 (SU (aH f111))):=
(bm af 111 [a0,a1] m (fn:=f111) (c:=aE f111) qmd rfl).trans au
theorem Tl:HH x2 x4 x5 x6 x7 xE qf vH m K=(ag .o .lss vH qf).bind fun v1=>aB v1 ((aI none xE vH).bind fun v2=>(aj none m v2).bind fun v3=>(ag .o .add x6 v3).bind fun v4=>(ag .o .add vH (.I 1)).bind fun v5=>HH x2 x4 x5 v4 x7 xE qf v5 m K) (K (.exit 0) (Nc x2 x4 x5 x6 x7 m)):=
(bX (bQ _) _ _ _).trans au
theorem Ti:HG x2 x4 x5 x6 x7 qD vI Dy m K=(ag .o .lss Dy vI).bind fun v1=>aB v1 ((aI none qD Dy).bind fun v2=>(aj none m v2).bind fun v3=>(aL 0 x2).bind fun v4=>(aj none m v4).bind fun v5=>(aL 0 x5).bind fun v6=>(aj none m v6).bind fun v7=>(aI none v5 v7).bind fun v8=>(aj none m v8).bind fun v9=>(aI none v9 Dy).bind fun v10=>(aj none m v10).bind fun v11=>(aF (AP af) none m 116 [v11,x6]).bind fun jV=>(a8 jV.1 0).bind fun bg=>(a8 jV.1 1).bind fun bf=>(aP (some 3) (az none jV.2 (.B [(.bool false),(.lst none true .full []),(.lst none true .full [])])).2 (.ptr (az none jV.2 .resv).1 0) bg).bind fun m15=>(aj (some 3) m15 x7).bind fun bK=>(aj (some 3) m15 (.ptr (az none jV.2 .resv).1 0)).bind fun bH=>(aL 2 x2).bind fun cV=>(aj none m15 cV).bind fun cP=>(aI (some 3) cP v3).bind fun v20=>(aj (some 3) m15 v20).bind fun v21=>(aF (AP af) (some m15.length) m15 117 [bH,v21]).bind fun Bk=>(aF (AP af) (some m15.length) Bk.2 22 [bK,Bk.1]).bind fun ka=>(aP (some 3) ka.2 x7 ka.1).bind fun m24=>(ag .o .add Dy (.I 1)).bind fun v25=>HG x2 x4 x5 x6 x7 qD vI v25 m24 K) (K (.exit 2) (Nb x4 x7 m)):=
(bX (bQ _) _ _ _).trans au
theorem qdN:SU (aH f111) (.exit 0) (Nc x2 x4 x5 x6 x7 m)=(aL 1 x5).bind fun v1=>(aj none m v1).bind fun v2=>(aM false v2).bind fun v3=>HG x2 x4 x5 x6 x7 v2 v3 (.I 0) m (Mg (aH f111)):=au
theorem qdK:Mg (aH f111) (.exit 2) (Nb x4 x7 m)=(aj (some 3) m x7).bind fun v1=>(aP (some 3) m x4 v1).bind fun m2=>(aj (some 3) m2 x4).bind fun v3=>some (v3,m2):=au
def Nj:St:=⟨(aJ (x1::x2::bC (aK []))),m⟩
def IU:St:=⟨(aK (x2::x3::x4::bC [])),m⟩
def BK:OM:=bY 121 (b8 (c2 (c2 (aE f121)))) 4 (aJ (x1::x2::aV (aJ (aS::aY::br (aO (aK (aJ []))))))) m K
abbrev qec:KT:=bI 121 (c2 (c2 (c2 (aE f121)))) K
abbrev qed:KT:=bw 0 (qec K)
abbrev G8:KT:=(qed K)
theorem qjK:AC af 121 [a0] m=(dp none (some 4) m a0).bind fun r1=>(aj (some 4) (az none r1.2 (.B [(.bool false),(.lst none true .full []),(.lst none true .full [])])).2 r1.1).bind fun v2=>(aF (AP af) none (az none r1.2 (.B [(.bool false),(.lst none true .full []),(.lst none true .full [])])).2 162 [v2]).bind fun r3=>(gH .not r3.1).bind fun v4=>aB v4 ((fR (.agg [(.bool false),(.lst none true .full []),(.lst none true .full [])]) []).bind fun v5=>(aP (some 3) r3.2 (.ptr (az none r1.2 .resv).1 0) v5).bind fun m6=>(aj (some 3) m6 (.ptr (az none r1.2 .resv).1 0)).bind fun v7=>some ((.tup [v7,(.I 0),(.I 1)]),m6)) ((aL 1 r1.1).bind fun v8=>(aj none r3.2 v8).bind fun v9=>(aM false v9).bind fun v10=>BK r1.1 (.ptr (az none r1.2 .resv).1 0) v10 (.I 0) r3.2 (G8 (aH f121))):=
(bm af 121 [a0] m (fn:=f121) (c:=aE f121) qmn rfl).trans au
theorem Tn:BK x1 x2 aS aY m K=(ag .o .lss aY aS).bind fun v1=>aB v1 ((aL 2 x1).bind fun v2=>(aj none m v2).bind fun v3=>(aI (some 3) v3 aY).bind fun v4=>(aj (some 3) m v4).bind fun v5=>(aj (some 4) m x1).bind fun v6=>(aF (AP af) (some m.length) m 111 [v6,aY]).bind fun r7=>(aF (AP af) (some m.length) r7.2 21 [v5,r7.1]).bind fun r8=>(gH .not r8.1).bind fun v9=>aB v9 ((fR (.agg [(.bool false),(.lst none true .full []),(.lst none true .full [])]) []).bind fun v10=>(aP (some 3) r8.2 x2 v10).bind fun m11=>K .ret (IU x2 aY (.I 32) m11)) ((ag .o .add aY (.I 1)).bind fun v12=>BK x1 x2 aS v12 r8.2 K)) (K (.exit 0) (Nj x1 x2 m)):=
(bX (bQ _) _ _ _).trans au
theorem qef:G8 (aH f121) (.exit 0) (Nj x1 x2 m)=(aL 2 x1).bind fun v1=>(aj none m v1).bind fun v2=>(aL 2 x1).bind fun v3=>(aj none m v3).bind fun v4=>(aM false v4).bind fun v5=>(ag .o .sub v5 (.I 1)).bind fun v6=>(aI (some 3) v2 v6).bind fun v7=>(aj (some 3) m v7).bind fun v8=>(aP (some 3) m x2 v8).bind fun m9=>(aj (some 3) m9 x2).bind fun v10=>some ((.tup [v10,(.I 0),(.I 0)]),m9):=au
theorem qee:G8 (aH f121) .ret (IU x2 x3 x4 m)=(aj (some 3) m x2).bind fun v1=>some ((.tup [v1,x3,x4]),m):=au
end
end Go.Ab
namespace Go.Ab.Pq
open Go.Proofs.Tryz
structure IL where
 z:Bool
 o:Own
 ns:List Int
def iA(n:Int):AV:=.I n
def IL.av(l:IL):AV:=.lst none l.z l.o (l.ns.map iA)
def IL.fr(l:IL):IL:=⟨l.z,l.o.fr,l.ns⟩
structure ND where
 var:Int
 kids:IL
 leaf:Int
def ND.av(n:ND):AV:=.agg [.I n.var,n.kids.av,.I n.leaf]
structure OL where
 z:Bool
 o:Own
 es:List IL
def OL.av(l:OL):AV:=.lst none l.z l.o (l.es.map IL.av)
def OL.fr(l:OL):OL:=⟨l.z,l.o.fr,l.es⟩
structure NL where
 sh:Sh
 z:Bool
 o:Own
 es:List ND
def NL.av(l:NL):AV:=.lst l.sh l.z l.o (l.es.map ND.av)
def NL.fr(l:NL):NL:=⟨l.sh,l.z,l.o.fr,l.es⟩
structure CV where
 odds:OL
 nodes:NL
 ws:LV
 leaf:Int
def CV.av(c:CV):AV:=.agg [c.odds.av,c.nodes.av,c.ws.av,.I c.leaf]
def CV.fr(c:CV):CV:=⟨c.odds.fr,c.nodes.fr,c.ws.fr,c.leaf⟩
theorem fz_il(l:IL):Fz l.av l.fr.av:=fun m=>sD none l.z l.o (l.ns.map iA) m 8
theorem fz_ol(l:OL):Fz l.av l.fr.av:=fun m=>sD none l.z l.o (l.es.map IL.av) m 8
theorem Cq(l:NL):Fz l.av l.fr.av:=fun m=>sD l.sh l.z l.o (l.es.map ND.av) m 8
theorem fza_il(l:IL):∀m k,cq m (k+1) l.av=some (l.fr.av,[]):=sD none l.z l.o (l.ns.map iA)
theorem fza_ol(l:OL):∀m k,cq m (k+1) l.av=some (l.fr.av,[]):=sD none l.z l.o (l.es.map IL.av)
theorem qpH(l:NL):∀m k,cq m (k+1) l.av=some (l.fr.av,[]):=sD l.sh l.z l.o (l.es.map ND.av)
theorem qpF(l:LV):∀m k,cq m (k+1) l.av=some (l.fr.av,[]):=sD l.sh l.z l.o (l.es.map RV.av)
theorem qpG(n:ND):∀m k,cq m (k+2) n.av=some (ND.av ⟨n.var,n.kids.fr,n.leaf⟩,[]):=by
 intro m k;have e:cq m (k+2) n.av=(fU (cq m (k+1)) [.I n.var,n.kids.av,.I n.leaf]).map fun r=>(.agg r.1,r.2):=rfl;rw[e];simp[fU,kn _ _ m k,fza_il n.kids m k,ND.av]
theorem PA(c:CV):∀m k,cq m (k+2) c.av=some (c.fr.av,[]):=by
 intro m k;have e:cq m (k+2) c.av=(fU (cq m (k+1)) [c.odds.av,c.nodes.av,c.ws.av,.I c.leaf]).map fun r=>(.agg r.1,r.2):=rfl;rw[e];simp[fU,kn _ _ m k,fza_ol _ m k,qpH _ m k,qpF _ m k,CV.av,CV.fr]
theorem fz_nd(n:ND):Fz n.av (ND.av ⟨n.var,n.kids.fr,n.leaf⟩):=fun m=>qpG n m 7
theorem fz_cv(c:CV):Fz c.av c.fr.av:=fun m=>PA c m 7
theorem jS(l:IL):aM false l.av=some (.I l.ns.length):=by simp[IL.av,aM]
theorem len_ol(l:OL):aM false l.av=some (.I l.es.length):=by simp[OL.av,aM]
theorem ov(l:NL):aM false l.av=some (.I l.es.length):=by simp[NL.av,aM]
theorem nj{l:IL}{k:Nat}{kk:IntKind}(hk:k<l.ns.length):aI none l.av (.int kk k)=some (.vptr [iA l.ns[k]]):=by
 simp[IL.av,aI,hk,iA,AV.cells]
theorem np(m:ai)(n:Int):aj none m (.vptr [iA n])=some (.I n):=rfl
theorem index_ol{l:OL}{k:Nat}{kk:IntKind}(hk:k<l.es.length):aI none l.av (.int kk k)=some (.vptr [l.es[k].av]):=by
 simp[OL.av,aI,hk,IL.av,AV.cells]
theorem load_ol(m:ai)(n:IL):aj none m (.vptr [n.av])=some n.av:=rfl
theorem tZ{l:NL}{k:Nat}{kk:IntKind}(hs:l.sh=some 3\/l.es=[])(hk:k<l.es.length):aI (some 3) l.av (.int kk k)=some (.vptr (l.es[k].av).cells):=by
 have hs:l.sh=some 3:=hs.resolve_right (fun e=>by rw[e] at hk;simp at hk);simp[NL.av,aI,hs,hk]
theorem w9(m:ai)(n:ND):aj (some 3) m (.vptr n.av.cells)=some n.av:=rfl
theorem JQ(n:ND):aL 0 (.vptr n.av.cells)=some (.vptr n.av.cells):=rfl
theorem KB(m:ai)(n:ND):aj none m (.vptr n.av.cells)=some (.I n.var):=rfl
def cN(n:ND):Option Ent:=some (.B [.I n.var,n.kids.av,.I n.leaf])
def A9:IL:=⟨true,.full,[]⟩
def zN:ND:=⟨0,A9,0⟩
theorem mO(m:ai):az none m (.B [.I 0,.lst none true .full [],.I 0])=(m.length,m++[cN zN]):=rfl
theorem oB{m:ai}{k:Nat}{x:ND}(h:m[k]?=some (cN x)):aj none m (.ptr k 0)=some (.I x.var):=by simp[aj,oW h,kH]
theorem qB{m:ai}{k:Nat}{x:ND}(h:m[k]?=some (cN x)):aj none m (.ptr k 1)=some x.kids.av:=by simp[aj,oW h,kH]
theorem sQ{m:ai}{k:Nat}{x:ND}(h:m[k]?=some (cN x)):aj none m (.ptr k 2)=some (.I x.leaf):=by simp[aj,oW h,kH]
theorem KO{m:ai}{k:Nat}{x:ND}(h:m[k]?=some (cN x)):aj (some 3) m (.ptr k 0)=some x.av:=by simp[aj,oW h,kH,ND.av]
theorem Bb{m:ai}{x y:ND}:aP (some 3) (m++[cN x]) (.ptr m.length 0) y.av=some (m++[cN y]):=by
 simp only[aP,oW (oP (m:=m) (e:=cN x)),ae];simp[ND.av,IL.av,Sh.size,dJ,fG,b9,AV.cells,cN]
theorem EN(m:ai)(x:ND):dp none (some 3) m x.av=some (.ptr m.length 0,m++[cN x]):=rfl
def cC(c:CV):Option Ent:=some (.B [c.odds.av,c.nodes.av,c.ws.av,.I c.leaf])
def zC:CV:=⟨⟨true,.full,[]⟩,⟨none,true,.full,[]⟩,qsa,0⟩
theorem ya(m:ai)(x:CV):dp none (some 4) m x.av=some (.ptr m.length 0,m++[cC x]):=rfl
theorem KN(m:ai):az none m (.B [.lst none true .full [],.lst none true .full [],.lst none true .full [],.I 0])=(m.length,m++[cC zC]):=rfl
theorem qO{m:ai}{k:Nat}{x:CV}(h:m[k]?=some (cC x)):aj none m (.ptr k 0)=some x.odds.av:=by simp[aj,oW h,kH]
theorem pU{m:ai}{k:Nat}{x:CV}(h:m[k]?=some (cC x)):aj none m (.ptr k 1)=some x.nodes.av:=by simp[aj,oW h,kH]
theorem qs{m:ai}{k:Nat}{x:CV}(h:m[k]?=some (cC x)):aj none m (.ptr k 2)=some x.ws.av:=by simp[aj,oW h,kH]
theorem uK{m:ai}{k:Nat}{x:CV}(h:m[k]?=some (cC x)):aj none m (.ptr k 3)=some (.I x.leaf):=by simp[aj,oW h,kH]
theorem uL{m:ai}{k:Nat}{x:CV}(h:m[k]?=some (cC x)):aj (some 4) m (.ptr k 0)=some x.av:=by simp[aj,oW h,kH,CV.av]
theorem JC{m:ai}{k:Nat}{x y:CV}(h:m[k]?=some (cC x)):aP (some 4) m (.ptr k 0) y.av=some (m.set k (cC y)):=by
 simp only[aP,oW h,ae]
 rfl
theorem yi(n:Nat):aL 3 (.ptr n 0)=some (.ptr n 3):=rfl
theorem V94(n:Int):AP af 94 [.I n]=some (.bool (decide (0<=n/\n<=2147483647))):=by
 refine cw _ _ (km _) rfl (m:=[]) ?_;rw[Vy,ki,ae,aC]
 by_cases h:n≥0
 .rw[aq h,rG,ae];congr 3;exact jm.2 aa
 .rw[an h];congr 3;exact (bD (by omega)).symm
def mW(n:Int):Bool:=decide (1<=n/\n<=64)
theorem V6(l:IL)(hl:l.ns.length<=16)(m:ai)(K:KT):∀j i:Nat,i+j=l.ns.length->DT l.av (.I l.ns.length) (.I i) m K=if (l.ns.drop i).all mW then K (.exit 0) (IG m) else K .ret (Eo (.I 1) m)
 | 0,i,h=>by
  rw[HN,bS,ae,aC,an aa,gU aa];rfl
 | j+1,i,h=>by
  have hi:i<l.ns.length:=aa;have ih:=V6 l hl m K j (i+1) aa;rw[HN,bS,ae,aC,aq hi,nj hi,ae,np,ae,bz,ae,aC,jP hi,nF]
  by_cases h1:l.ns[i]<1
  .rw[aq h1,show mW l.ns[i]=false from bD aa];rfl
  .rw[an h1,gE,ae,aC]
   by_cases h2:l.ns[i]>64
   .rw[aq h2,show mW l.ns[i]=false from bD aa];rfl
   .rw[an h2,bU aa,ae,ih,show mW l.ns[i]=true from bM aa,dd]
theorem V11(l:IL):AP af 11 [l.av]=some (.I (if l.ns.length>16 then 2 else if l.ns.all mW then 0 else 1)):=by
 refine cw _ _ (gJ _ _) rfl (m:=[]) ?_;rw[Vf,jS,ae,show ((16:Int))=((16:Nat):Int) from rfl,A7,ae,aC]
 by_cases h:l.ns.length>16
 .rw[aq h,aq h]
 .rw[an h,an h,ae,show ((0:Int))=((0:Nat):Int) from rfl,V6 l aa [] _ l.ns.length 0 aa,gC]
  by_cases h2:l.ns.all mW=true
  .rw[aq h2,aq h2,SY];rfl
  .rw[an h2,an h2,SX]
def rV(o:Int):Bool:=decide (0<=o/\o<=1000)
def rowB(l:IL)(a:Int):Bool:=l.ns.all rV&&(decide ((l.ns.length:Int)=a)&&decide (l.ns.sum≠0))
def oddsB(arms:IL)(L:OL):Bool:=decide (L.es.length=arms.ns.length)&&(L.es.zip arms.ns).all fun p=>rowB p.1 p.2
theorem oddB_iff{o:Int}:rV o=true↔0<=o/\o<=1000:=by unfold rV;exact wu
theorem Jk(l:IL)(hl:l.ns.length<=64)(x0 x5 x6 fH c9 fw:AV)(m:ai)(K:KT):∀(j i:Nat) (s:Int),i+j=l.ns.length->0<=s->s<=1000*i ->
  Iq x0 x5 x6 (.I s) fH c9 fw l.av (.I l.ns.length) (.I i) m K=if (l.ns.drop i).all rV then K (.exit 2) (Oa x0 x5 x6 (.I (s+(l.ns.drop i).sum)) fH c9 fw m) else K .ret (I1 (.bool false) m)
 | 0,i,s,h,h0,h1=>by
  rw[UD,bS,ae,aC,an aa,gU aa,List.sum_nil,Int.add_zero];rfl
 | j+1,i,s,h,h0,h1=>by
  have hi:i<l.ns.length:=aa;rw[UD,bS,ae,aC,aq hi,nj hi,ae,np,ae,bz,ae,aC,jP hi,nF,lZ]
  by_cases c1:l.ns[i]<0
  .rw[aq c1,show rV l.ns[i]=false from bD aa];rfl
  .rw[an c1,gE,ae,aC]
   by_cases c2:l.ns[i]>1000
   .rw[aq c2,show rV l.ns[i]=false from bD aa];rfl
   .have ih:=Jk l hl x0 x5 x6 fH c9 fw m K j (i+1) (s+l.ns[i]) aa aa aa;rw[an c2,l9,iV aa aa,ae,bU aa,ae,ih,show rV l.ns[i]=true from bM aa,dd,Int.add_assoc]
theorem Ws(arms:IL)(L:OL)(hlen:L.es.length=arms.ns.length)(h64:∀l∈L.es,l.ns.length<=64)(mF:L.es.length<=40)(m:ai)(K:KT):∀j i:Nat,i+j=L.es.length ->
  Ip arms.av L.av (.I L.es.length) (.I i) m K=if ((L.es.zip arms.ns).drop i).all (fun p=>rowB p.1 p.2) then K (.exit 0) (N9 m) else K .ret (Et (.bool false) m)
 | 0,i,h=>by
  rw[UC,bS,ae,aC,an aa,gU (by rw[Ed];omega)];rfl
 | j+1,i,h=>by
  have hi:i<L.es.length:=aa;have hz:i<(L.es.zip arms.ns).length:=by rw[Ed];omega
  have ih:=Ws arms L hlen h64 mF m K j (i+1) aa;have hx:=Jk L.es[i] (h64 _ (bA hi)) arms.av (.I i) L.es[i].av L.av (.I L.es.length) (.I i) m (Hy K) L.es[i].ns.length 0 0 aa aa aa;rw[gC,Int.zero_add,show (((0:Nat):Int))=(0:Int) from rfl] at hx;rw[UC,bS,ae,aC,aq hi,index_ol hi,ae,load_ol,ae,jS,ae,hx,jP hz,nF,List.getElem_zip];dsimp only;unfold rowB
  by_cases c1:L.es[i].ns.all rV=true
  .rw[aq c1,qim,jS,ae,nj aa,ae,np,ae,gm,ae,aC,c1,dd]
   by_cases c2:(L.es[i].ns.length:Int)=arms.ns[i]
   .rw[an aa,iK,ae,aC,bM c2,dd]
    by_cases c3:L.es[i].ns.sum=0
    .rw[aq c3,bD aa];rfl
    .rw[an c3,bM c3,dd,bU aa,ae,ih];rfl
   .rw[aq c2,bD c2];rfl
  .rw[an c1,qil,s7.2 c1];rfl
theorem V63(arms:IL)(L:OL)(h64:∀l∈L.es,l.ns.length<=64)(mF:L.es.length<=40):AP af 63 [arms.av,L.av]=some (.bool (oddsB arms L)):=by
 refine cw _ _ (km _) rfl (m:=[]) ?_;unfold oddsB;rw[T63,len_ol,ae,jS,ae,gm,ae,aC]
 by_cases h:L.es.length=arms.ns.length
 .rw[an aa,ae,show ((0:Int))=((0:Nat):Int) from rfl,Ws arms L h h64 mF [] _ L.es.length 0 aa,gC,bM h,dd]
  by_cases h2:(L.es.zip arms.ns).all (fun p=>rowB p.1 p.2)=true
  .rw[aq h2,h2,qig]
  .rw[an h2,s7.2 h2,qif]
 .rw[aq aa,bD h];rfl
theorem WG(l:IL)(hl:l.ns.length<=64)(x0 x5 x6 fH c9 fw:AV)(m:ai)(K:KT):∀(j i:Nat) (s:Int),i+j=l.ns.length->0<=s->s<=1000*i ->
  Ih x0 x5 x6 (.I s) fH c9 fw l.av (.I l.ns.length) (.I i) m K=if (l.ns.drop i).all rV then K (.exit 2) (NT x0 x5 x6 (.I (s+(l.ns.drop i).sum)) fH c9 fw m) else K .ret (IY (.bool false) m)
 | 0,i,s,h,h0,h1=>by
  rw[Uk,bS,ae,aC,an aa,gU aa,List.sum_nil,Int.add_zero];rfl
 | j+1,i,s,h,h0,h1=>by
  have hi:i<l.ns.length:=aa;rw[Uk,bS,ae,aC,aq hi,nj hi,ae,np,ae,bz,ae,aC,jP hi,nF,lZ]
  by_cases c1:l.ns[i]<0
  .rw[aq c1,show rV l.ns[i]=false from bD aa];rfl
  .rw[an c1,gE,ae,aC]
   by_cases c2:l.ns[i]>1000
   .rw[aq c2,show rV l.ns[i]=false from bD aa];rfl
   .have ih:=WG l hl x0 x5 x6 fH c9 fw m K j (i+1) (s+l.ns[i]) aa aa aa;rw[an c2,l9,iV aa aa,ae,bU aa,ae,ih,show rV l.ns[i]=true from bM aa,dd,Int.add_assoc]
theorem Wj(arms:IL)(L:OL)(hlen:L.es.length=arms.ns.length)(h64:∀l∈L.es,l.ns.length<=64)(mF:L.es.length<=40)(m:ai)(K:KT):∀j i:Nat,i+j=L.es.length ->
  Ig arms.av L.av (.I L.es.length) (.I i) m K=if ((L.es.zip arms.ns).drop i).all (fun p=>rowB p.1 p.2) then K (.exit 0) (NS m) else K .ret (Er (.bool false) m)
 | 0,i,h=>by
  rw[Uj,bS,ae,aC,an aa,gU (by rw[Ed];omega)];rfl
 | j+1,i,h=>by
  have hi:i<L.es.length:=aa;have hz:i<(L.es.zip arms.ns).length:=by rw[Ed];omega
  have ih:=Wj arms L hlen h64 mF m K j (i+1) aa;have hx:=WG L.es[i] (h64 _ (bA hi)) arms.av (.I i) L.es[i].av L.av (.I L.es.length) (.I i) m (Hn K) L.es[i].ns.length 0 0 aa aa aa;rw[gC,Int.zero_add,show (((0:Nat):Int))=(0:Int) from rfl] at hx;rw[Uj,bS,ae,aC,aq hi,index_ol hi,ae,load_ol,ae,jS,ae,hx,jP hz,nF,List.getElem_zip];dsimp only;unfold rowB
  by_cases c1:L.es[i].ns.all rV=true
  .rw[aq c1,qhd,jS,ae,nj aa,ae,np,ae,gm,ae,aC,c1,dd]
   by_cases c2:(L.es[i].ns.length:Int)=arms.ns[i]
   .rw[an aa,iK,ae,aC,bM c2,dd]
    by_cases c3:L.es[i].ns.sum=0
    .rw[aq c3,bD aa];rfl
    .rw[an c3,bM c3,dd,bU aa,ae,ih];rfl
   .rw[aq c2,bD c2];rfl
  .rw[an c1,qhc,s7.2 c1];rfl
theorem V18(arms:IL)(L:OL)(h64:∀l∈L.es,l.ns.length<=64)(mF:L.es.length<=40):AP af 18 [arms.av,L.av]=some (.bool (oddsB arms L)):=by
 refine cw _ _ (km _) rfl (m:=[]) ?_;unfold oddsB;rw[T18,len_ol,ae,jS,ae,gm,ae,aC]
 by_cases h:L.es.length=arms.ns.length
 .rw[an aa,ae,show ((0:Int))=((0:Nat):Int) from rfl,Wj arms L h h64 mF [] _ L.es.length 0 aa,gC,bM h,dd]
  by_cases h2:(L.es.zip arms.ns).all (fun p=>rowB p.1 p.2)=true
  .rw[aq h2,h2,qg7]
  .rw[an h2,s7.2 h2,qg6]
 .rw[aq aa,bD h];rfl
end Go.Ab.Pq
namespace Go.Ab.Pq
open Go.Proofs.Tryz
def allF(f:Nat->Bool):Nat->Nat->Bool
 | 0,_=>true
 | j+1,i=>f i&&allF f j (i+1)
theorem allF_iff{f:Nat->Bool}:∀{j i:Nat},allF f j i=true↔∀k,i<=k->k<i+j->f k=true
 | 0,i=>by
  constructor
  .intro _ k h1 h2;omega
  .intro _;rfl
 | j+1,i=>by
  rw[allF,cD,allF_iff (j:=j)]
  constructor
  .rintro ⟨h1,h2⟩ k h3 h4
   by_cases h:k=i
   .rw[h];exact h1
   .exact h2 k aa aa
  .intro h;exact ⟨h i (aR _) aa,fun k h1 h2=>h k aa aa⟩
def varAt(ns:List ND)(k:Nat):Int:=(ns.map ND.var).getD k 0
def kidB(ns:List ND)(i:Nat)(v k:Int):Bool:=decide (0<=k/\k<i)&&(decide (varAt ns k.toNat<0)||decide (v<varAt ns k.toNat))
def nodeB(arms:IL)(ns:List ND)(i:Nat)(n:ND):Bool:=
 if n.var=-1 then decide (n.kids.ns.length=0/\0<=n.leaf/\n.leaf<=2147483647)
 else decide (0<=n.var/\n.var<arms.ns.length/\n.leaf=0/\(n.kids.ns.length:Int)=arms.ns.getD n.var.toNat 0)&&n.kids.ns.all (kidB ns i n.var)
def nodesB(arms:IL)(ns:List ND):Bool:=decide (0<ns.length)&&allF (fun i=>nodeB arms ns i (ns.getD i zN)) ns.length 0
theorem Dv{ns:List ND}{k:Nat}(h:k<ns.length):varAt ns k=ns[k].var:=by
 unfold varAt;rw[aT,mS,bP h];rfl
theorem E7{ns:List ND}{k:Nat}(h:k<ns.length):ns.getD k zN=ns[k]:=by
 rw[aT,bP h];rfl
theorem Q9{arms:IL}{ns:List ND}{i:Nat}{n:ND}(h:nodeB arms ns i n=true):n.var=-1\/0<=n.var:=by
 unfold nodeB at h
 by_cases c:n.var=-1
 .exact .inl c
 .rw[an c,cD,wu] at h;exact .inr h.1.1
theorem qsM{m:ai}{d:Option Nat}{g:Nat}(a:Int):aF (AP af) d m g [.I a]=(AP af g [.I a]).map fun v=>(v,m):=cI (gJ _ a)
theorem WE(L:NL)(hs:L.sh=some 3\/L.es=[])(i:Nat)(hi:i<=L.es.length)(hp:∀k,k<i->varAt L.es k=-1\/0<=varAt L.es k)(n:ND)(b:Nat)(m:ai)(hb:m[b]?=some (cN n))(hk:n.kids.ns.length<=64)(x0 x9 aN aX:AV)(K:KT):∀j c:Nat,c+j=n.kids.ns.length ->
  zB x0 L.av (.I i) (.ptr b 0) x9 aN aX n.kids.av (.I n.kids.ns.length) (.I c) m K=if (n.kids.ns.drop c).all (kidB L.es i n.var) then K (.exit 2) (ID x0 L.av x9 aN aX m) else K .ret (Em (.bool false) m)
 | 0,c,h=>by
  rw[HD,bS,ae,aC,an aa,gU aa];rfl
 | j+1,c,h=>by
  have hc:c<n.kids.ns.length:=aa;have ih:=WE L hs i hi hp n b m hb hk x0 x9 aN aX K j (c+1) aa;rw[HD,bS,ae,aC,aq hc,nj hc,ae,np,ae,bz,ae,aC,jP hc,nF];generalize n.kids.ns[c]=k;unfold kidB
  by_cases c1:k<0
  .rw[aq c1,bD (by omega:¬ (0<=k/\k<i))];rfl
  .rw[an c1,ki,ae,aC]
   by_cases c2:k≥i
   .rw[aq c2,bD (by omega:¬ (0<=k/\k<i))];rfl
   .obtain ⟨q,rfl⟩:=nE (by omega:0<=k);have hq:q<L.es.length:=aa;have gA:=hp q aa;rw[Dv hq] at gA;rw[an c2,tZ hs hq,ae,JQ,ae,KB,ae,ki,ae,aC,bM (by omega:(0:Int)<=(q:Int)/\(q:Int)<i),dd,cU,Dv hq]
    by_cases c3:L.es[q].var≥0
    .rw[aq c3,ae,JQ,ae,KB,ae,cG,ae,oB hb,ae,rG,ae,aC,bD (by omega:¬ L.es[q].var<0),uu]
     by_cases c4:L.es[q].var<=n.var
     .rw[aq c4,bD aa];rfl
     .rw[an c4,bU aa,ae,ih,bM aa,dd];rfl
    .rw[an c3,bU aa,ae,ih,bM (by omega:L.es[q].var<0),Bool.true_or,dd];rfl
theorem V5(arms:IL)(ha:∀a∈arms.ns,a<=64)(L:NL)(hs:L.sh=some 3\/L.es=[])(hL:L.es.length<=4000)(K:KT):∀(j i:Nat) (m:ai),i+j=L.es.length->(∀k,k<i->varAt L.es k=-1\/0<=varAt L.es k) ->
  ∃m',vL arms.av L.av L.av (.I L.es.length) (.I i) m K=if allF (fun i=>nodeB arms L.es i (L.es.getD i zN)) j i then K (.exit 0) (IE L.av m') else K .ret (uE (.bool false) m')
 | 0,i,m,h,hp=>⟨m,by rw[HE,bS,ae,aC,an aa];rfl⟩
 | j+1,i,m,h,hp=>by
  have hi:i<L.es.length:=aa
  have nx:nodeB arms L.es i L.es[i]=true->∃m',vL arms.av L.av L.av (.I L.es.length) (.I ((i+1:Nat):Int)) (m++[cN L.es[i]]) K=if allF (fun i=>nodeB arms L.es i (L.es.getD i zN)) j (i+1) then K (.exit 0) (IE L.av m') else K .ret (uE (.bool false) m'):=by
   intro hn;refine V5 arms ha L hs hL K j (i+1) _ aa (fun k hk=>?_)
   by_cases c:k=i
   .rw[c,Dv hi];exact Q9 hn
   .exact hp k aa
  rw[allF,E7 hi,HE,bS,ae,aC,aq hi,tZ hs hi,ae,w9,ae];simp only[mO,cr];rw[Bb,ae];have hb:(m++[cN L.es[i]])[m.length]?=some (cN L.es[i]):=oP;have hX:=fun (hk:L.es[i].kids.ns.length<=64) (K:KT)=>WE L hs i aa hp L.es[i] m.length _ hb hk arms.av L.av (.I L.es.length) (.I i) K L.es[i].kids.ns.length 0 aa;rw[gC] at hX;generalize hne:L.es[i]=n at *;simp only[cG,cF,cH];rw[ae,oB hb,ae,iK,ae,aC]
  by_cases c1:n.var=-1
  .rw[aq c1,ae,qB hb,ae,jS,ae,gE,ae,aC];have e1:nodeB arms L.es i n=decide (n.kids.ns.length=0/\0<=n.leaf/\n.leaf<=2147483647):=by unfold nodeB;rw[aq c1]
   by_cases c2:n.kids.ns.length=0
   .rw[an aa,ae,sQ hb,ae];rw[qsM,V94,aQ,ae,cM,ae]
    by_cases c3:0<=n.leaf/\n.leaf<=2147483647
    .obtain ⟨m',hm⟩:=nx (e1.trans (bM ⟨c2,c3⟩));refine ⟨m',?_⟩;rw[bM c3,jj,j7,bU aa,ae,hm,e1,bM ⟨c2,c3⟩,dd]
    .refine ⟨m++[cN n],?_⟩;rw[bD c3,my,j8,e1,bD (fun h=>c3 h.2)];rfl
   .refine ⟨m++[cN n],?_⟩;rw[aq aa,e1,bD aa];rfl
  .have e1:nodeB arms L.es i n=(decide (0<=n.var/\n.var<arms.ns.length/\n.leaf=0/\(n.kids.ns.length:Int)=arms.ns.getD n.var.toNat 0)&&n.kids.ns.all (kidB L.es i n.var)):=by unfold nodeB;rw[an c1]
   rw[an c1,ae,oB hb,ae,bz,ae,aC]
   by_cases c2:n.var<0
   .refine ⟨m++[cN n],?_⟩;rw[aq c2,e1,bD aa];rfl
   .rw[an c2,ae,oB hb,ae,jS,ae,ki,ae,aC]
    by_cases c3:n.var≥(arms.ns.length:Nat)
    .refine ⟨m++[cN n],?_⟩;rw[aq c3,e1,bD aa];rfl
    .rw[an c3,ae,sQ hb,ae,gm,ae,aC]
     by_cases c4:n.leaf=0
     .obtain ⟨v,hv⟩:=nE (by omega:0<=n.var);have fL:v<arms.ns.length:=aa
      have jA:arms.ns.getD n.var.toNat 0=arms.ns[v]:=by
       rw[hv,cU,aT,bP fL];rfl
      rw[an aa,ae,qB hb,ae,jS,ae,ae,oB hb,ae,hv,nj fL,ae,np,ae,gm,ae,aC];rw[jA] at e1
      by_cases c5:(n.kids.ns.length:Int)=arms.ns[v]
      .have:=ha _ (bA fL);rw[an aa,ae,qB hb,ae,jS,ae,show ((0:Int))=((0:Nat):Int) from rfl,hX aa,e1,bM aa,dd];rw[bM (by omega:0<=n.var/\n.var<arms.ns.length/\n.leaf=0/\(n.kids.ns.length:Int)=arms.ns[v]),dd] at e1
       by_cases c6:n.kids.ns.all (kidB L.es i n.var)=true
       .obtain ⟨m',hm⟩:=nx (e1.trans c6);refine ⟨m',?_⟩;rw[aq c6,SQ,bU aa,ae,hm,c6,dd]
       .refine ⟨m++[cN n],?_⟩;rw[an c6,G5,s7.2 c6];rfl
      .refine ⟨m++[cN n],?_⟩;rw[aq aa,e1,bD aa];rfl
     .refine ⟨m++[cN n],?_⟩;rw[aq aa,e1,bD aa];rfl
theorem qkx(arms:IL)(ha:∀a∈arms.ns,a<=64)(L:NL)(hs:L.sh=some 3\/L.es=[])(hL:L.es.length<=4000):AP af 107 [arms.av,L.av]=some (.bool (nodesB arms L.es)):=by
 obtain ⟨m',h⟩:=V5 arms ha L hs hL (uw (aH f107)) L.es.length 0 [] aa (fun k hk=>aa);refine cw _ _ (km _) rfl (m:=m') ?_;unfold nodesB;rw[Ve,ov,ae,show ((0:Int))=((0:Nat):Int) from rfl,h]
 by_cases h2:allF (fun i=>nodeB arms L.es i (L.es.getD i zN)) L.es.length 0=true
 .rw[aq h2,h2,SR,ov,ae,gE,ae,Bool.and_true];congr 3;exact jm.2 aa
 .rw[an h2,s7.2 h2,ux,zn]
theorem WH(L:NL)(hs:L.sh=some 3\/L.es=[])(i:Nat)(hi:i<=L.es.length)(hp:∀k,k<i->varAt L.es k=-1\/0<=varAt L.es k)(n:ND)(b:Nat)(m:ai)(hb:m[b]?=some (cN n))(hk:n.kids.ns.length<=64)(x0 x9 aN aX:AV)(K:KT):∀j c:Nat,c+j=n.kids.ns.length ->
  DZ x0 L.av (.I i) (.ptr b 0) x9 aN aX n.kids.av (.I n.kids.ns.length) (.I c) m K=if (n.kids.ns.drop c).all (kidB L.es i n.var) then K (.exit 2) (NM x0 L.av x9 aN aX m) else K .ret (Ep (.bool false) m)
 | 0,c,h=>by
  rw[Ud,bS,ae,aC,an aa,gU aa];rfl
 | j+1,c,h=>by
  have hc:c<n.kids.ns.length:=aa;have ih:=WH L hs i hi hp n b m hb hk x0 x9 aN aX K j (c+1) aa;rw[Ud,bS,ae,aC,aq hc,nj hc,ae,np,ae,bz,ae,aC,jP hc,nF];generalize n.kids.ns[c]=k;unfold kidB
  by_cases c1:k<0
  .rw[aq c1,bD (by omega:¬ (0<=k/\k<i))];rfl
  .rw[an c1,ki,ae,aC]
   by_cases c2:k≥i
   .rw[aq c2,bD (by omega:¬ (0<=k/\k<i))];rfl
   .obtain ⟨q,rfl⟩:=nE (by omega:0<=k);have hq:q<L.es.length:=aa;have gA:=hp q aa;rw[Dv hq] at gA;rw[an c2,tZ hs hq,ae,JQ,ae,KB,ae,gm,ae,aC,bM (by omega:(0:Int)<=(q:Int)/\(q:Int)<i),dd,cU,Dv hq]
    by_cases c3:L.es[q].var≠-1
    .rw[aq c3,ae,JQ,ae,KB,ae,cG,ae,oB hb,ae,rG,ae,aC,bD (by omega:¬ L.es[q].var<0),uu]
     by_cases c4:L.es[q].var<=n.var
     .rw[aq c4,bD aa];rfl
     .rw[an c4,bU aa,ae,ih,bM aa,dd];rfl
    .rw[an c3,bU aa,ae,ih,bM (by omega:L.es[q].var<0),Bool.true_or,dd];rfl
theorem Wm(arms:IL)(ha:∀a∈arms.ns,a<=64)(L:NL)(hs:L.sh=some 3\/L.es=[])(hL:L.es.length<=4000)(K:KT):∀(j i:Nat) (m:ai),i+j=L.es.length->(∀k,k<i->varAt L.es k=-1\/0<=varAt L.es k) ->
  ∃m',BR arms.av L.av L.av (.I L.es.length) (.I i) m K=if allF (fun i=>nodeB arms L.es i (L.es.getD i zN)) j i then K (.exit 0) (IN L.av m') else K .ret (tj (.bool false) m')
 | 0,i,m,h,hp=>⟨m,by rw[Ue,bS,ae,aC,an aa];rfl⟩
 | j+1,i,m,h,hp=>by
  have hi:i<L.es.length:=aa
  have nx:nodeB arms L.es i L.es[i]=true->∃m',BR arms.av L.av L.av (.I L.es.length) (.I ((i+1:Nat):Int)) (m++[cN L.es[i]]) K=if allF (fun i=>nodeB arms L.es i (L.es.getD i zN)) j (i+1) then K (.exit 0) (IN L.av m') else K .ret (tj (.bool false) m'):=by
   intro hn;refine Wm arms ha L hs hL K j (i+1) _ aa (fun k hk=>?_)
   by_cases c:k=i
   .rw[c,Dv hi];exact Q9 hn
   .exact hp k aa
  rw[allF,E7 hi,Ue,bS,ae,aC,aq hi,tZ hs hi,ae,w9,ae];simp only[mO,cr];rw[Bb,ae];have hb:(m++[cN L.es[i]])[m.length]?=some (cN L.es[i]):=oP;have hX:=fun (hk:L.es[i].kids.ns.length<=64) (K:KT)=>WH L hs i aa hp L.es[i] m.length _ hb hk arms.av L.av (.I L.es.length) (.I i) K L.es[i].kids.ns.length 0 aa;rw[gC] at hX;generalize hne:L.es[i]=n at *;simp only[cG,cF,cH];rw[ae,oB hb,ae,iK,ae,aC]
  by_cases c1:n.var=-1
  .rw[aq c1,ae,qB hb,ae,jS,ae,gm,ae,aC];have e1:nodeB arms L.es i n=decide (n.kids.ns.length=0/\0<=n.leaf/\n.leaf<=2147483647):=by unfold nodeB;rw[aq c1]
   by_cases c2:n.kids.ns.length=0
   .rw[an aa,ae,sQ hb,ae];rw[bz,ae,aC]
    by_cases c3:0<=n.leaf/\n.leaf<=2147483647
    .obtain ⟨m',hm⟩:=nx (e1.trans (bM ⟨c2,c3⟩));refine ⟨m',?_⟩;rw[an aa,ae,sQ hb,ae,gE,ae,aC,an aa,bU aa,ae,hm,e1,bM ⟨c2,c3⟩,dd]
    .refine ⟨m++[cN n],?_⟩;rw[e1,bD (fun h=>c3 h.2),iv]
     by_cases c4:n.leaf<0
     .rw[aq c4];rfl
     .rw[an c4,ae,sQ hb,ae,gE,ae,aC,aq aa];rfl
   .refine ⟨m++[cN n],?_⟩;rw[aq aa,e1,bD aa];rfl
  .have e1:nodeB arms L.es i n=(decide (0<=n.var/\n.var<arms.ns.length/\n.leaf=0/\(n.kids.ns.length:Int)=arms.ns.getD n.var.toNat 0)&&n.kids.ns.all (kidB L.es i n.var)):=by unfold nodeB;rw[an c1]
   rw[an c1,ae,oB hb,ae,bz,ae,aC]
   by_cases c2:n.var<0
   .refine ⟨m++[cN n],?_⟩;rw[aq c2,e1,bD aa];rfl
   .rw[an c2,ae,oB hb,ae,jS,ae,ki,ae,aC]
    by_cases c3:n.var≥(arms.ns.length:Nat)
    .refine ⟨m++[cN n],?_⟩;rw[aq c3,e1,bD aa];rfl
    .rw[an c3,ae,sQ hb,ae,gm,ae,aC]
     by_cases c4:n.leaf=0
     .obtain ⟨v,hv⟩:=nE (by omega:0<=n.var);have fL:v<arms.ns.length:=aa
      have jA:arms.ns.getD n.var.toNat 0=arms.ns[v]:=by
       rw[hv,cU,aT,bP fL];rfl
      rw[an aa,ae,qB hb,ae,jS,ae,ae,oB hb,ae,hv,nj fL,ae,np,ae,gm,ae,aC];rw[jA] at e1
      by_cases c5:(n.kids.ns.length:Int)=arms.ns[v]
      .have:=ha _ (bA fL);rw[an aa,ae,qB hb,ae,jS,ae,show ((0:Int))=((0:Nat):Int) from rfl,hX aa,e1,bM aa,dd];rw[bM (by omega:0<=n.var/\n.var<arms.ns.length/\n.leaf=0/\(n.kids.ns.length:Int)=arms.ns[v]),dd] at e1
       by_cases c6:n.kids.ns.all (kidB L.es i n.var)=true
       .obtain ⟨m',hm⟩:=nx (e1.trans c6);refine ⟨m',?_⟩;rw[aq c6,qgA,bU aa,ae,hm,c6,dd]
       .refine ⟨m++[cN n],?_⟩;rw[an c6,qgz,s7.2 c6];rfl
      .refine ⟨m++[cN n],?_⟩;rw[aq aa,e1,bD aa];rfl
     .refine ⟨m++[cN n],?_⟩;rw[aq aa,e1,bD aa];rfl
theorem qkX(arms:IL)(ha:∀a∈arms.ns,a<=64)(L:NL)(hs:L.sh=some 3\/L.es=[])(hL:L.es.length<=4000):AP af 185 [arms.av,L.av]=some (.bool (nodesB arms L.es)):=by
 obtain ⟨m',h⟩:=Wm arms ha L hs hL (Hm (aH f185)) L.es.length 0 [] aa (fun k hk=>aa);refine cw _ _ (km _) rfl (m:=m') ?_;unfold nodesB;rw[qkp,ov,ae,show ((0:Int))=((0:Nat):Int) from rfl,h]
 by_cases h2:allF (fun i=>nodeB arms L.es i (L.es.getD i zN)) L.es.length 0=true
 .rw[aq h2,h2,qgE,ov,ae,gE,ae,Bool.and_true];congr 3;exact jm.2 aa
 .rw[an h2,s7.2 h2,qgD,zn]
end Go.Ab.Pq
namespace Go.Ab.Pq
open Go.Proofs.Tryz
theorem sP{R:Type}(b:Bool)(x y:Option R):aB (.bool (!b)) x y=aB (.bool b) y x:=by cases b<;>rfl
theorem qkM{r:RV}{k:Nat}(h:ROk k r):AP af 151 [r.av]=some (.bool (!kE r)):=by
 refine cw _ _ (km _) rfl (m:=[cR r]) ?_;rw[qj3,dh,ae];simp only[bo,bF];rw[dE,ae,dw,qkN h.fr,aQ,ae,cM,ae];rfl
theorem OY{fid g:Nat}{vs:List AV}{m:ai}{d:Option Nat}{K:AV->ai->OM}(hi:af.inl fid g=false)(h1:((af.lib g).isNone&&(af.libm g).isNone)=true:=by rfl):jZ af fid (AP af) (AC af) d g vs m K=(aF (AP af) d m g vs).bind fun r=>K r.1 r.2:=by
 have h5:af.lib g=none/\af.libm g=none:=by
  rw[cD] at h1;exact ⟨Option.isNone_iff_eq_none.1 h1.1,Option.isNone_iff_eq_none.1 h1.2⟩
 unfold jZ;rw[h5.2,h5.1,hi]
theorem Wk{l:LV}{k:Nat}(hl:LOk k l)(hlen:l.es.length<2^40)(m:ai)(K:KT):∀j i:Nat,i+j=l.es.length ->
  ∃r:Nat,BQ l.av (.fn 151 []) (.I l.es.length) (.I i) m K=if (l.es.drop i).all kE then K (.exit 0) (Ei m) else K .ret (B8 (.I r) m)
 | 0,i,h=>⟨0,by rw[Ub,bS,ae,aC,an aa,gU aa];rfl⟩
 | j+1,i,h=>by
  have hi:i<l.es.length:=aa;have hr:=hl.ok _ (bA hi);obtain ⟨r,ih⟩:=Wk hl hlen m K j (i+1) aa
  have pre:∀r',(BQ l.av (.fn 151 []) (.I l.es.length) (.I i) m K=if (l.es.drop i).all kE then K (.exit 0) (Ei m) else K .ret (B8 (.I r') m))↔(aB (.bool (!kE l.es[i])) (K .ret (B8 (.I i) m)) (BQ l.av (.fn 151 []) (.I l.es.length) (.I ((i+1:Nat):Int)) m K)=if kE l.es[i]&&(l.es.drop (i+1)).all kE then K (.exit 0) (Ei m) else K .ret (B8 (.I r') m)):=by
   intro r';rw[Ub,bS,ae,aC,aq hi,yL hl hi,ae,xd,ae,show kI (.fn 151 [])=some (151,[]) from rfl,ae,OY rfl,show ([l.es[i].av]++([]:List AV))=[l.es[i].av] from rfl,dw,qkM hr.fr,aQ,ae,bU aa,ae,jP hi,nF];exact Iff.rfl
  cases hb:kE l.es[i] with
  | false=>
   refine ⟨i,(pre i).2 ?_⟩;rw[hb];rfl
  | true=>
   refine ⟨r,(pre r).2 ?_⟩;rw[hb,jj,j7,ih,dd]
theorem qkL{l:LV}{k:Nat}(hl:LOk k l)(hlen:l.es.length<2^40):AP af 150 [l.av,.fn 151 []]=some (.bool (!l.es.all kE)):=by
 have h65:∃n:Int,AP af 180 [l.fr.av,.fn 151 []]=some (.I n)/\decide (n≥0) = !l.es.all kE:=by
  obtain ⟨r,h⟩:=Wk hl.fr' hlen [] (Hl (aH f180)) l.fr.es.length 0 aa;rw[gC] at h
  by_cases c:l.fr.es.all kE=true
  .refine ⟨-1,cw _ _ (gJ _ _) rfl (m:=[]) ?_,?_⟩
   .rw[Vq,w8,ae,show ((0:Int))=((0:Nat):Int) from rfl,h,aq c,qgp]
   .have c:l.es.all kE=true:=c;rw[c];rfl
  .refine ⟨r,cw _ _ (gJ _ _) rfl (m:=[]) ?_,?_⟩
   .rw[Vq,w8,ae,show ((0:Int))=((0:Nat):Int) from rfl,h,an c,qgo]
   .have c:¬ l.es.all kE=true:=c;rw[s7.2 c,bM aa];rfl
 obtain ⟨n,h1,h2⟩:=h65;refine cw _ _ (km _) rfl (m:=[]) ?_;rw[qj2,fN (Pw l) (fun _=>rfl),h1,aQ,ae,ki,ae,h2]
def rT(m:ai)(e:Nat)(es:List AV):AV:=if es=[] then .lst none true .full [] else .lst none false (.tok m.length e) es
def mT(m:ai)(es:List AV):ai:=if es=[] then m else o9 m es.length
theorem WY{m:ai}{e b:Nat}{es:List AV}{z:Bool}{o:Own}{y:AV}(h:(es.length+1)*b<=ft):bL none false e none b (mT m es) (rT m e es) (.lst none z o [y])=some (rT m e (es++[y]),mT m (es++[y])):=by
 cases es with
 | nil=>
  simp[bL,rT,mT,o9,az,Sh.size,h];simpa using h
 | cons a es=>
  have:=EJ (e:=e) (b:=b) (m:=m) (es:=a::es) (z:=z) (o:=o) (y:=y) h;simp only[rT,mT,an (List.cons_ne_nil a es)];rw[this];simp
theorem qpD(m:ai)(e:Nat)(es:List AV):Fz (rT m e es) (if es=[] then .lst none true .full [] else .lst none false .no es):=by
 intro m';unfold rT;split<;>rfl
def lens(L:OL):List Int:=L.es.map fun l=>(l.ns.length:Int)
def armsI(ns:List Int):IL:=if ns=[] then ⟨true,.full,[]⟩ else ⟨false,.no,ns⟩
theorem armsI_ns(ns:List Int):(armsI ns).ns=ns:=by
 unfold armsI
 split
 .rename_i h;rw[h]
 .rfl
theorem W7(ns:List Int):(armsI ns).fr=armsI ns:=by unfold armsI;split<;>rfl
theorem Px(m:ai)(e:Nat)(ns:List Int):Fz (rT m e (ns.map iA)) (armsI ns).av:=by
 have:=qpD m e (ns.map iA);unfold armsI
 cases ns with
 | nil=>exact this
 | cons a l=>exact this
theorem yP(L:OL):(lens L).length=L.es.length:=by simp[lens]
theorem lens_get{L:OL}{i:Nat}(h:i<L.es.length):(lens L)[i]'(by rw[yP];exact h)=(L.es[i].ns.length:Int):=by simp[lens]
theorem qan{L:OL}{i:Nat}(h:i<L.es.length):((lens L).take (i+1)).map iA=((lens L).take i).map iA++[.I (L.es[i].ns.length:Int)]:=by
 rw[mU (by rw[yP];exact h),iH,lens_get h];rfl
theorem qcH(L:OL){i:Nat}(h:i<=L.es.length):(((lens L).take i).map iA).length=i:=by
 rw[bu,im,yP];omega
def vn(l:IL):Bool:=decide (1<=l.ns.length/\l.ns.length<=64)
theorem Wl(L:OL)(mF:L.es.length<=40)(K:KT):∀j i:Nat,i+j=L.es.length ->
  Ic (rT [] 3 (((lens L).take i).map iA)) L.av (.I L.es.length) (.I i) (mT [] (((lens L).take i).map iA)) K=K (.exit 0) (NK (rT [] 3 ((lens L).map iA)) (mT [] ((lens L).map iA)))
 | 0,i,h=>by
  rw[Uc,bS,ae,aC,an aa,iX (by rw[yP];omega)]
 | j+1,i,h=>by
  have hi:i<L.es.length:=aa;have ih:=Wl L mF K j (i+1) aa;rw[qan hi] at ih;rw[Uc,bS,ae,aC,aq hi,index_ol hi,ae,load_ol,ae,jS,ae,qM,ae,WY (by rw[qcH L aa];simp only[ft];omega),ae,bU aa,ae];exact ih
theorem qkW(L:OL)(mF:L.es.length<=40):AP af 184 [L.av]=some (armsI (lens L)).av:=by
 have h:=Wl L mF (MC (aH f184)) L.es.length 0 aa;refine cw _ _ (Px [] 3 (lens L)) (by unfold armsI;split<;>rfl) (m:=mT [] ((lens L).map iA)) ?_;rw[qko,len_ol,ae]
 refine Eq.trans ?_ (h.trans ?_)
 .rfl
 .rw[qgv]
theorem Wa(x1:AV)(m:ai)(L:OL)(mF:L.es.length<=40)(K:KT):∀j i:Nat,i+j=L.es.length ->
  ∃m',HJ x1 (rT m 3 (((lens L).take i).map iA)) L.av (.I L.es.length) (.I i) (mT m (((lens L).take i).map iA)) K=if (L.es.drop i).all vn then K (.exit 0) (Nd x1 (rT m 3 ((lens L).map iA)) (mT m ((lens L).map iA))) else K .ret (IT (.bool false) m')
 | 0,i,h=>⟨m,by
  rw[Tm,bS,ae,aC,an aa,iX (by rw[yP];omega),gU aa];rfl⟩
 | j+1,i,h=>by
  have hi:i<L.es.length:=aa;obtain ⟨m',ih⟩:=Wa x1 m L mF K j (i+1) aa;rw[qan hi] at ih;rw[Tm,bS,ae,aC,aq hi,index_ol hi,ae,load_ol,ae,jS,ae,bz,ae,aC,jP hi,nF];unfold vn
  by_cases c1:(L.es[i].ns.length:Int)<1
  .refine ⟨mT m (((lens L).take i).map iA),?_⟩;rw[aq c1,bD aa];rfl
  .rw[an c1,ae,gE,ae,aC]
   by_cases c2:(L.es[i].ns.length:Int)>64
   .refine ⟨mT m (((lens L).take i).map iA),?_⟩;rw[aq c2,bD aa];rfl
   .refine ⟨m',?_⟩;rw[an c2,ae,qM,ae,WY (by rw[qcH L aa];simp only[ft];omega),ae,bU aa,ae,bM aa,dd];exact ih
end Go.Ab.Pq
namespace Go.Ab.Pq
open Go.Proofs.Tryz
structure COk (k:Nat) (c:CV):Prop where
 odds:c.odds.es.length<=40
 nsh:c.nodes.sh=some 3\/c.nodes.es=[]
 nlen:c.nodes.es.length<=4000
 ws:LOk k c.ws
 wlen:c.ws.es.length<=4000
theorem COk.fr{k:Nat}{c:CV}(h:COk k c):COk k c.fr:=⟨h.odds,h.nsh,h.nlen,h.ws.fr',h.wlen⟩
def shapedB(c:CV):Bool:=decide (c.odds.es.length<=16/\0<=c.leaf/\c.leaf<=2147483647/\c.ws.es.length=c.nodes.es.length)&&(c.odds.es.all vn&&(oddsB (armsI (lens c.odds)) c.odds&&(nodesB (armsI (lens c.odds)) c.nodes.es&&c.ws.es.all kE)))
theorem qrO{m:ai}{n:Nat}{e:Option Ent}(h:m[n]?=some e)(es:List AV):(mT m es)[n]?=some e:=by
 unfold mT
 split
 .exact h
 .unfold o9
  rw[nZ]
  .exact h
  .exact (vQ.1 h).1
theorem Kx{L:OL}(h:L.es.all vn=true):∀l∈L.es,l.ns.length<=64:=fun l hl=>(sS (gD.1 h l hl)).2
theorem W6{L:OL}(h:L.es.all vn=true):∀a∈(armsI (lens L)).ns,a<=64:=by
 rw[armsI_ns];intro a ha;obtain ⟨l,hl,rfl⟩:=iw.1 ha;have:=Kx h l hl;omega
theorem qkA{c:CV}{k:Nat}(hc:COk k c):AP af 112 [c.av]=some (.bool (shapedB c)):=by
 have fin:∀(v:Bool) (m:ai),AC af 112 [c.av] []=some (.bool v,m)->AP af 112 [c.av]=some (.bool v):=fun v m h=>cw _ _ (km _) rfl h;have start:AC af 112 [c.av] []=AC af 112 [c.av] []:=rfl;have g0:([cC c]:ai)[0]?=some (cC c):=rfl
 conv at start=>rhs;rw[qjC,ya,ae]
 simp only[bo,bF,cG,cF,cH,yi] at start;rw[ae,qO g0,ae,len_ol,ae,gE,ae,aC] at start;unfold shapedB
 by_cases c1:(c.odds.es.length:Int)>16
 .rw[aq c1] at start;rw[bD aa,iv];exact fin _ _ start
 rw[an c1,ae,uK g0,ae,bz,ae,aC] at start
 by_cases c2:c.leaf<0
 .rw[aq c2] at start;rw[bD aa,iv];exact fin _ _ start
 rw[an c2,ae,uK g0,ae,gE,ae,aC] at start
 by_cases c3:c.leaf>2147483647
 .rw[aq c3] at start;rw[bD aa,iv];exact fin _ _ start
 have hn:=hc.nlen;rw[an c3,ae,pU g0,ae,ov,ae,gE,ae,aC,an aa] at start;rw[ae,qs g0,ae,w8,ae,ae,pU g0,ae,ov,ae,gm,ae,aC] at start;by_cases c4:c.ws.es.length=c.nodes.es.length
 case neg=>
  rw[aq aa] at start;rw[bD (fun h=>c4 h.2.2.2),iv];exact fin _ _ start
 rw[bM aa,dd];rw[an aa,ae,qO g0,ae,len_ol,ae] at start;obtain ⟨m',hW⟩:=Wa (.ptr 0 0) [cC c] c.odds aa (G7 (aH f112)) c.odds.es.length 0 aa;have e0:(.lst none true .full []:AV)=rT [cC c] 3 (((lens c.odds).take 0).map iA):=rfl;have e1:([cC c]:ai)=mT [cC c] (((lens c.odds).take 0).map iA):=rfl;have start2:=start.trans hW;rw[gC] at start2;by_cases c5:c.odds.es.all vn=true
 case neg=>
  rw[an c5,qdQ] at start2;rw[s7.2 c5,iv];exact fin _ _ start2
 rw[aq c5,qdR] at start2;rw[c5,dd];have g1:=qrO g0 ((lens c.odds).map iA);have V1:=V63 (armsI (lens c.odds)) c.odds.fr (Kx c5) (by show c.odds.es.length<=40;omega);have V2:=qkx (armsI (lens c.odds)) (W6 c5) c.nodes.fr hc.nsh (by show c.nodes.es.length<=4000;omega);have V3:=qkL hc.ws.fr' (by have:=hc.wlen;show c.ws.es.length<_;omega);rw[cG,ae,qO g1,ae,fN (Px _ _ _) (fz_ol _),V1,aQ,ae] at start2;have o1:oddsB (armsI (lens c.odds)) c.odds.fr=oddsB (armsI (lens c.odds)) c.odds:=rfl;rw[o1] at start2
 cases c6:oddsB (armsI (lens c.odds)) c.odds with
 | false=>
  rw[c6,j7] at start2;exact fin _ _ start2
 | true=>
  rw[c6,j8,cF,ae,pU g1,ae,fN (Px _ _ _) (Cq _),V2,aQ,ae] at start2;have o2:nodesB (armsI (lens c.odds)) c.nodes.fr.es=nodesB (armsI (lens c.odds)) c.nodes.es:=rfl;rw[o2] at start2
  cases c7:nodesB (armsI (lens c.odds)) c.nodes.es with
  | false=>
   rw[c7,j7] at start2;exact fin _ _ start2
  | true=>
   rw[c7,j8,cH,ae,qs g1,ae,fN (Pw _) (fun _=>rfl),V3,aQ,ae,cM,ae,Bool.not_not] at start2;exact fin _ _ start2
theorem Wi{l:LV}{k:Nat}(hl:LOk k l)(hk:k<2^38)(hlen:l.es.length<2^40)(K:KT):∀(j i:Nat) (m:ai),i+j=l.es.length ->
  ∃m',H4 l.av (.I l.es.length) (.I i) m K=if (l.es.drop i).all kE then K (.exit 0) (Nz m') else K .ret (Ot (.bool false) m')
 | 0,i,m,h=>⟨m,by rw[TO,bS,ae,aC,an aa,gU aa];rfl⟩
 | j+1,i,m,h=>by
  have hi:i<l.es.length:=aa;have hr:=hl.ok _ (bA hi);obtain ⟨m',ih⟩:=Wi hl hk hlen K j (i+1) (m++[cR l.es[i]]) aa;have hx:∀X:AV,∀Y,(X=.bool (kE l.es[i]))->True:=fun _ _ _=>trivial;rw[TO,bS,ae,aC,aq hi,yL hl hi,ae,xd,ae];simp only[p7,cr];rw[Gw,ae,qad,ae,dw,V56 hr.fr hk,aQ,ae,cM,ae,jP hi,nF];have er:kE l.es[i].fr=kE l.es[i]:=rfl;rw[er]
  cases hb:kE l.es[i] with
  | false=>exact ⟨m++[cR l.es[i]],rfl⟩
  | true=>
   refine ⟨m',?_⟩;rw[jj,j7,bU aa,ae,ih,dd]
theorem qlT{L:OL}:(armsI (lens L)).ns.all mW=L.es.all vn:=by
 rw[armsI_ns,lens,List.all_map];congr 1;funext l;show mW (l.ns.length:Int)=vn l;unfold mW vn;exact jm.2 aa
theorem qkS{c:CV}{k:Nat}(hc:COk k c)(hk:k<2^38):AP af 162 [c.av]=some (.bool (shapedB c)):=by
 have fin:∀(v:Bool) (m:ai),AC af 162 [c.av] []=some (.bool v,m)->AP af 162 [c.av]=some (.bool v):=fun v m h=>cw _ _ (km _) rfl h;have start:AC af 162 [c.av] []=AC af 162 [c.av] []:=rfl;have g0:([cC c]:ai)[0]?=some (cC c):=rfl;have ho:=hc.odds;have hn:=hc.nlen;have V1:=qkW c.odds.fr ho;have V2:=V11 (armsI (lens c.odds));rw[qlT] at V2;have hl:(armsI (lens c.odds)).ns.length=c.odds.es.length:=by rw[armsI_ns,yP]
 rw[hl] at V2;have f1:lens c.odds.fr=lens c.odds:=rfl;rw[f1] at V1
 have pa:∀(d:Option Nat) (m:ai) (g:Nat),aF (AP af) d m g [(armsI (lens c.odds)).av]=(AP af g [(armsI (lens c.odds)).av]).map fun v=>(v,m):=fun d m g=>by
  rw[cI (fz_il _),W7]
 have pb:∀(d:Option Nat) (m:ai) (g:Nat) (b b':AV),Fz b b'->aF (AP af) d m g [(armsI (lens c.odds)).av,b]=(AP af g [(armsI (lens c.odds)).av,b']).map fun v=>(v,m):=fun d m g b b' hb=>by
  rw[fN (fz_il _) hb,W7]
 conv at start=>rhs;rw[qkd,ya,ae]
 simp only[bo,bF,cG,cF,cH,yi] at start;rw[ae,qO g0,ae,cI (fz_ol _),V1,aQ,ae,pa,V2,aQ,ae,gm,ae,aC] at start;unfold shapedB
 by_cases c1:c.odds.es.length>16
 .rw[aq c1,aq aa] at start;rw[bD aa,iv];exact fin _ _ start
 rw[an c1] at start;by_cases c5:c.odds.es.all vn=true
 case neg=>
  rw[an c5,aq aa] at start;rw[s7.2 c5,iv,zn];exact fin _ _ start
 have V3:=V18 (armsI (lens c.odds)) c.odds.fr (Kx c5) ho;have V4:=qkX (armsI (lens c.odds)) (W6 c5) c.nodes.fr hc.nsh (by show c.nodes.es.length<=4000;omega);have o1:oddsB (armsI (lens c.odds)) c.odds.fr=oddsB (armsI (lens c.odds)) c.odds:=rfl;have o2:nodesB (armsI (lens c.odds)) c.nodes.fr.es=nodesB (armsI (lens c.odds)) c.nodes.es:=rfl;rw[o1] at V3;rw[o2] at V4;rw[aq c5,an aa,ae,qO g0,ae,pb _ _ _ _ _ (fz_ol _),V3,aQ,ae,cM,ae,sP] at start;rw[c5,dd]
 cases c6:oddsB (armsI (lens c.odds)) c.odds with
 | false=>
  rw[c6,j7] at start;rw[iv,zn];exact fin _ _ start
 | true=>
 rw[c6,j8,ae,uK g0,ae,bz,ae,aC] at start;rw[dd]
 by_cases c2:c.leaf<0
 .rw[aq c2] at start;rw[bD aa,iv];exact fin _ _ start
 rw[an c2,ae,uK g0,ae,gE,ae,aC] at start
 by_cases c3:c.leaf>2147483647
 .rw[aq c3] at start;rw[bD aa,iv];exact fin _ _ start
 rw[an c3,ae,pU g0,ae,ov,ae,gE,ae,aC,an aa] at start;rw[ae,pU g0,ae,pb _ _ _ _ _ (Cq _),V4,aQ,ae,cM,ae,sP] at start
 cases c7:nodesB (armsI (lens c.odds)) c.nodes.es with
 | false=>
  rw[c7,j7] at start;rw[iv,zn];exact fin _ _ start
 | true=>
 rw[c7,j8,ae,qs g0,ae,w8,ae,ae,pU g0,ae,ov,ae,gm,ae,aC] at start;rw[dd];by_cases c4:c.ws.es.length=c.nodes.es.length
 case neg=>
  rw[aq aa] at start;rw[bD (fun h=>c4 h.2.2.2),iv];exact fin _ _ start
 rw[bM aa,dd];obtain ⟨m',hW⟩:=Wi hc.ws hk (by have:=hc.wlen;omega) (Hh (aH f162)) c.ws.es.length 0 [cC c] aa;rw[gC] at hW;rw[an aa,ae,qs g0,ae,w8,ae] at start;have start2:=start.trans hW
 by_cases c8:c.ws.es.all kE=true
 .rw[aq c8,qfE] at start2;rw[c8];exact fin _ _ start2
 .rw[an c8,qfD] at start2;rw[s7.2 c8];exact fin _ _ start2
end Go.Ab.Pq
namespace Go.Ab.Pq
open Go.Proofs.Tryz
def xi(n:Nat):NV:=⟨false,rW n,aG n⟩
theorem Q3(n:Nat):(xi n).fr=xi n:=by
 unfold xi NV.fr rW;split<;>rfl
theorem VL{n:Nat}(h:n<9223372036854775808):AP af 168 [.I (n:Int)]=some (xi n).av:=by
 refine (cw _ _ (cX (xi n)) (qC _) (m:=[]) ?_).trans (by rw[Q3]);rw[qkh,KL,ae,j7,Cg aa,ae,dr,OA aa];rfl
theorem qkG{a b:Nat}(ha:a<9223372036854775808)(hb:b<9223372036854775808)(h0:b≠0):∃r:RV,AP af 128 [.I (a:Int),.I (b:Int)]=some (.tup [r.av,.I 0])/\Can r (cT false a b)/\r.fr=r:=by
 have la:(aG a).length<=2:=oN aa;have lb:(aG b).length<=2:=oN aa;have va:(xi a).v=a:=gQ a;have vb:(xi b).v=b:=gQ b
 rcases VK (x:=xi a) (y:=xi b) false (vo aa) (vo aa) with ⟨h,_⟩|⟨_,r,e,h2,h3⟩
 .rw[vb] at h;exact absurd h h0
 .rw[va,vb] at h2;refine ⟨r,(cw _ _ (Cr r (kn .i64 0)) rfl (m:=[cR r]) ?_).trans (by rw[h3]),h2,h3⟩;rw[qjQ,KL,ae,KL,ae,dD,ae];simp only[p7,cr,bo,bF];rw[dr,VL ha,aQ,ae,dr,VL hb,aQ,ae,dL,Q3,Q3,show (false != false)=false from rfl,e,aQ,ae,dj,ae,dk,ae,dC,ae,dE,ae]
def RowOk(l:IL):Prop:=l.ns.length<=64/\(∀o∈l.ns,0<=o/\o<=1000)/\l.ns.sum≠0
theorem R9:∀{l:List Int},(∀o∈l,0<=o/\o<=1000)->0<=l.sum/\l.sum<=1000*(l.length:Int)
 | [],_=>aA
 | a::l,h=>by
  obtain ⟨h1,h2⟩:=h a gj;obtain ⟨h3,h4⟩:=R9 (fun o ho=>h o (fW _ ho));rw[lZ,ba];omega
theorem RowOk.sum{l:IL}(h:RowOk l):∃S:Nat,l.ns.sum=(S:Int)/\S≠0/\S<=64000:=by
 obtain ⟨h1,h2⟩:=R9 h.2.1;obtain ⟨S,hS⟩:=nE h1;have:=h.1;exact ⟨S,hS,fun e=>h.2.2 (by rw[hS,e];rfl),aa⟩
theorem RowOk.get{l:IL}(h:RowOk l){i:Nat}(hi:i<l.ns.length):∃a:Nat,l.ns[i]=(a:Int)/\a<=1000:=by
 obtain ⟨h1,h2⟩:=h.2.1 _ (bA hi);obtain ⟨a,ha⟩:=nE h1;exact ⟨a,ha,aa⟩
def partQ(l:IL)(i:Nat):Rat:=cT false (l.ns.getD i 0).toNat l.ns.sum.toNat
theorem Rl{l:IL}{i a S:Nat}(hi:i<l.ns.length)(ha:l.ns[i]=(a:Int))(hS:l.ns.sum=(S:Int)):partQ l i=cT false a S:=by
 unfold partQ;rw[aT,bP hi,hS];show cT false (l.ns[i]).toNat _=_;rw[ha];rfl
theorem partQ_bd{l:IL}(h:RowOk l){i:Nat}(hi:i<l.ns.length):Bd 1 (partQ l i):=by
 obtain ⟨S,hS,_,Fe⟩:=h.sum;obtain ⟨a,ha,tC⟩:=h.get hi;rw[Rl hi ha hS];exact DE (oN aa) (oN aa) aa
theorem qcI{l:List Int}{i:Nat}(hi:i<l.length):(l.take (i+1)).sum=(l.take i).sum+l[i]:=by
 rw[mU hi,List.sum_append];simp
theorem qcG{l:IL}(h:RowOk l)(i:Nat):0<=(l.ns.take i).sum/\(l.ns.take i).sum<=64000:=by
 obtain ⟨h1,h2⟩:=R9 (l:=l.ns.take i) (fun o ho=>h.2.1 o (uC ho));have:=h.1;rw[im] at h2;omega
theorem Wx{l:IL}(h:RowOk l)(x1 x4:AV)(m:ai)(K:KT):∀j i:Nat,i+j=l.ns.length ->
  Ir l.av x1 x4 (.I (l.ns.take i).sum) l.av (.I l.ns.length) (.I i) m K=K (.exit 0) (Ob l.av x1 x4 (.I l.ns.sum) m)
 | 0,i,iD=>by
  rw[UE,bS,ae,aC,an aa,iX aa]
 | j+1,i,iD=>by
  have hi:i<l.ns.length:=aa;have:=h.1;obtain ⟨b1,b2⟩:=qcG h i;obtain ⟨a,ha,tC⟩:=h.get hi;have ih:=Wx h x1 x4 m K j (i+1) aa;rw[qcI hi] at ih;rw[UE,bS,ae,aC,aq hi,nj hi,ae,np,ae,l9,iV aa aa,ae,bU aa,ae,ih]
theorem qbs{m:ai}{d:Option Nat}{g:Nat}(a b:Int):aF (AP af) d m g [.I a,.I b]=(AP af g [.I a,.I b]).map fun v=>(v,m):=fN (gJ _ a) (gJ _ b)
theorem V70{l:IL}(h:RowOk l){i:Nat}(hi:i<l.ns.length):∃r:RV,AP af 70 [l.av,.I (i:Int)]=some r.av/\Can r (partQ l i)/\r.fr=r:=by
 obtain ⟨S,hS,Cv,Fe⟩:=h.sum;obtain ⟨a,ha,tC⟩:=h.get hi;obtain ⟨r,e1,e2,e3⟩:=qkG (a:=a) (b:=S) aa aa Cv;refine ⟨r,(cw _ _ (jv r) (lV _) (m:=[cR r,cR r]) ?_).trans (by rw[e3]),by rw[Rl hi ha hS];exact e2,e3⟩;have hW:=Wx h (.I (i:Int)) (.ptr 0 0) [cR zR] (MR (aH f70)) l.ns.length 0 aa;rw[T70,jS,ae];refine (show _=_ from hW).trans ?_;rw[qip,nj hi,ae,np,ae,ha,hS,qbs,e1,aQ,ae,dj,ae,dk,ae];simp only[p7,cr,bo,bF,ba,b6,bq];rw[cZ,ae,cY,ae,dC,ae,dE,ae]
def sumR(F:Nat->Rat):Nat->Rat
 | 0=>0
 | j+1=>sumR F j+F j
def wQ(ws:LV)(k:Nat):Rat:=(ws.es.map RV.q).getD k 0
theorem wQ_get{ws:LV}{k:Nat}(h:k<ws.es.length):wQ ws k=ws.es[k].q:=by
 unfold wQ;rw[aT,mS,bP h];rfl
def termQ(l:IL)(ws:LV)(n:ND)(i:Nat):Rat:=partQ l i*wQ ws (n.kids.ns.getD i 0).toNat
def hasQ(odds:OL)(ws:LV)(leaf:Int)(n:ND):Rat:=
 if n.var<0 then (if n.leaf=leaf then 1 else 0) else sumR (termQ (odds.es.getD n.var.toNat ⟨true,.full,[]⟩) ws n) n.kids.ns.length
structure NodeOk (l:IL) (ws:LV) (n:ND):Prop where
 row:RowOk l
 len:n.kids.ns.length=l.ns.length
 kids:∀k∈n.kids.ns,0<=k/\k<ws.es.length
theorem NodeOk.kid{l:IL}{ws:LV}{n:ND}(h:NodeOk l ws n){i:Nat}(hi:i<n.kids.ns.length):∃k:Nat,n.kids.ns[i]=(k:Int)/\k<ws.es.length/\n.kids.ns.getD i 0=(k:Int):=by
 obtain ⟨h1,h2⟩:=h.kids _ (bA hi);obtain ⟨k,hk⟩:=nE h1;refine ⟨k,hk,aa,?_⟩;rw[aT,bP hi];exact hk
theorem Sc{l:IL}{ws:LV}{n:ND}(h:NodeOk l ws n)(hw:LOk 30 ws){i:Nat}(hi:i<n.kids.ns.length):Bd 31 (termQ l ws n i):=by
 obtain ⟨k,hk,jB,Fu⟩:=h.kid hi;unfold termQ;rw[Fu,cU,wQ_get jB];exact qdd (partQ_bd h.row (by rw[<- h.len];exact hi)) ((hw.ok _ (bA jB)).bd aa) aa
theorem qcD{l:IL}{ws:LV}{n:ND}(h:NodeOk l ws n)(hw:LOk 30 ws):∀{j:Nat},j<=n.kids.ns.length->Bd (32*j+1) (sumR (termQ l ws n) j)
 | 0,_=>zk aa
 | j+1,hj=>(Mb (qcD h hw aa) (Sc h hw aa) (by omega)).mono aa
theorem Ly{l:IL}{ws:LV}{n:ND}(h:NodeOk l ws n)(hw:LOk 30 ws){j:Nat}(hj:j<=n.kids.ns.length):Bd 4000 (sumR (termQ l ws n) j):=by
 have h1:=h.row.1;have h2:=h.len;exact (qcD h hw hj).mono aa
theorem V7{odds:OL}{n:ND}{ws:LV}{v:Nat}(hw:LOk 30 ws)(hv:n.var=(v:Int))(fL:v<odds.es.length)(h:NodeOk odds.es[v] ws n)(K:KT):∀(j i:Nat) (s:RV),i+j=n.kids.ns.length->Can s (sumR (termQ odds.es[v] ws n) i)->s.fr=s ->
  ∃t:RV,Can t (sumR (termQ odds.es[v] ws n) n.kids.ns.length)/\t.fr=t/\HF odds.av ws.av (.ptr 0 0) (.ptr 1 0) (.ptr 2 0) n.kids.av (.I n.kids.ns.length) (.I i) [cN n,cR zR,cR s] K=K (.exit 0) (Na (.ptr 1 0) (.ptr 2 0) [cN n,cR zR,cR t])
 | 0,i,s,iD,hs,hf=>by
  obtain rfl:i=n.kids.ns.length:=aa;exact ⟨s,hs,hf,by rw[Th,bS,ae,aC,an aa]⟩
 | j+1,i,s,iD,hs,hf=>by
  have hi:i<n.kids.ns.length:=aa;have hlen:=h.len;have h64:=h.row.1;obtain ⟨k,hk,jB,Fu⟩:=h.kid hi;obtain ⟨p,p1,p2,p3⟩:=V70 (l:=odds.es[v].fr) h.row (i:=i) (show i<odds.es[v].ns.length by omega);have p2:Can p (partQ odds.es[v] i):=p2;have okp:=p2.ok ((partQ_bd h.row (by omega)).mono (by omega:1<=4000)) aa;have okw:=(hw.ok _ (bA jB)).mono (by omega:30<=4000);obtain ⟨q,q1,q2,q3⟩:=VT okp okw aa aa
  have et:p.q*ws.es[k].q=termQ odds.es[v] ws n i:=by
   unfold termQ;rw[p2.q,Fu,cU,wQ_get jB]
  rw[et] at q2;have oks:=hs.ok (Ly h hw aa) aa;have okq:=q2.ok ((Sc h hw hi).mono (by omega:31<=4000)) aa;obtain ⟨t,t1,t2,t3⟩:=Je oks okq aa aa;have es:s.q+q.q=sumR (termQ odds.es[v] ws n) (i+1):=by rw[hs.q,q2.q];rfl
  rw[es] at t2;obtain ⟨u,u1,u2,u3⟩:=V7 hw hv fL h K j (i+1) t aa t2 t3;refine ⟨u,u1,u2,?_⟩;have wfr:=hw.fr _ (bA jB)
  have rowfr:∀(d:Option Nat) (m:ai),aF (AP af) d m 70 [odds.es[v].av,.I (i:Int)]=some (p.av,m):=by
   intro d m;rw[fN (fz_il _) (gJ _ _),p1];rfl
  rw[Th,bS,ae,aC,aq hi,nj hi,ae,np,ae,dK,ae,cG,ae,oB (x:=n) rfl,ae,hv,index_ol fL,ae,load_ol,ae,rowfr,ae,hk,yL hw jB,ae,xd,ae,cO,p3,wfr,q1,aQ,ae,cO,hf,q3,t1,aQ,ae,dN,ae,bU aa,ae];exact u3
def NodeAt(odds:OL)(ws:LV)(n:ND):Prop:=n.var<0\/∃(v:Nat) (hv:v<odds.es.length),n.var=(v:Int)/\NodeOk odds.es[v] ws n
theorem hasQ_leaf{odds:OL}{ws:LV}{leaf:Int}{n:ND}(h:n.var<0):hasQ odds ws leaf n=if n.leaf=leaf then 1 else 0:=by unfold hasQ;rw[aq h]
theorem hasQ_node{odds:OL}{ws:LV}{leaf:Int}{n:ND}{v:Nat}(hv:v<odds.es.length)(h:n.var=(v:Int)):hasQ odds ws leaf n=sumR (termQ odds.es[v] ws n) n.kids.ns.length:=by
 unfold hasQ;rw[an aa,h,cU,aT,bP hv];rfl
theorem V110{odds:OL}{n:ND}{ws:LV}(leaf:Int)(hw:LOk 30 ws)(h:NodeAt odds ws n):∃s:RV,AP af 110 [odds.av,n.av,.I leaf,ws.av]=some s.av/\Can s (hasQ odds ws leaf n)/\s.fr=s:=by
 have fin:∀(s:RV) (m:ai),s.fr=s->AC af 110 [odds.av,n.av,.I leaf,ws.av] []=some (s.av,m)->AP af 110 [odds.av,n.av,.I leaf,ws.av]=some s.av:=fun s m hs h=>(cw _ _ (jv s) (lV _) h).trans (by rw[hs]);have start:AC af 110 [odds.av,n.av,.I leaf,ws.av] []=AC af 110 [odds.av,n.av,.I leaf,ws.av] []:=rfl;have gn:∀M:ai,(cN n::M)[0]?=some (cN n):=fun _=>rfl
 conv at start=>rhs;rw[qjA,EN,ae]
 simp only[p7,cr,bo,bF,ba,b6,bq] at start;rw[cG,ae,oB (gn _),ae,bz,ae,aC] at start
 rcases h with h|⟨v,hv,hn,h⟩
 .rw[aq h,cH,ae,sQ (gn _),ae,iK,ae,aC] at start;rw[hasQ_leaf h]
  by_cases c:n.leaf=leaf
  .rw[aq c,cS,OE,aQ,ae,cZ,ae,cY,ae] at start;refine ⟨kO,fin _ _ KQ start,?_,KQ⟩;rw[aq c];exact Jy
  .rw[an c,cS,Ey,aQ,ae,cZ,ae,cY,ae] at start;refine ⟨rp,fin _ _ DA start,?_,DA⟩;rw[an c];exact Ac
 .obtain ⟨t,t1,t2,t3⟩:=V7 hw hn hv h (Mf (aH f110)) n.kids.ns.length 0 rp aa Ac DA;rw[show (((0:Nat):Int))=(0:Int) from rfl] at t3;rw[an aa,cS,Ey,aQ,ae] at start;simp only[p7,cr,bo,bF,ba,b6,bq,Nat.reduceAdd] at start;rw[dN,ae,cF,ae,qB (gn _),ae,jS,ae,t3,qdH,dK,ae,cZ,ae,cY,ae] at start;exact ⟨t,fin _ _ t2 start,by rw[hasQ_node hv hn];exact t1,t2⟩
end Go.Ab.Pq
namespace Go.Ab
open Go.Proofs Go.Proofs.Tryz
structure WV (M:Nat) (r:RV) (N:Nat):Prop where
 ok:ROk 9 r
 q:r.q=cT false N M
 fr:r.fr=r
theorem Rx{M a b:Nat}(hM:M≠0):cT false a M+cT false b M=cT false (a+b) M:=by
 rw[K3 hM hM]
 have e:gg false (a*M)+gg false (b*M)=((a+b:Nat):Int)*(M:Int):=by
  simp only[gg,jJ,lp];rw[<- ta,<- Int.natCast_add,<- iI]
 rw[e,cT];have:=Rat.mkRat_mul_right (a:=M) (n:=((a+b:Nat):Int)) (d:=M) hM;rw[this];simp[gg]
theorem Ry{n d a:Nat}(ha:a≠0):cT false (n*a) (d*a)=cT false n d:=by
 have:=Rat.mkRat_mul_right (a:=a) (n:=((n:Nat):Int)) (d:=d) ha;rw[cT,cT];simp only[gg,jJ,lp,ta];exact this
theorem bd9{M N:Nat}(hM:M<4294967296^8)(hN:N<=M):Bd 8 (cT false N M):=DE (oN aa) (oN aa) aa
theorem Can.wv{M N:Nat}{r:RV}(hM:M<4294967296^8)(hN:N<=M)(h:Can r (cT false N M))(hf:r.fr=r):WV M r N:=⟨(h.ok (bd9 hM hN) (by omega)).mono aa,h.q,hf⟩
theorem WV.mul{M N a S:Nat}{r p:RV}(hM:M<4294967296^8)(h:WV M r (N*S))(hS:S≠0)(hp:Can p (cT false a S))(wT:ROk 9 p)(hb:N*a<=M):∃x:RV,AP af 69 [r.av,p.av]=some x.av/\WV M x (N*a):=by
 obtain ⟨x,e,hc,hf⟩:=VT h.ok wT aa aa;refine ⟨x,e,Can.wv hM hb ?_ hf⟩;rw[h.q,hp.q,Gn] at hc;have e1:N*S*a=N*a*S:=by rw[fQ,dF S a,<- fQ]
 rw[show (false != false)=false from rfl,e1,Ry hS] at hc;exact hc
theorem WV.add{M N1 N2:Nat}{r1 r2:RV}(hM:M<4294967296^8)(h0:M≠0)(h1:WV M r1 N1)(h2:WV M r2 N2)(hb:N1+N2<=M):∃x:RV,AP af 71 [r1.av,r2.av]=some x.av/\WV M x (N1+N2):=by
 obtain ⟨x,e,hc,hf⟩:=Je h1.ok h2.ok aa aa;rw[h1.q,h2.q,Rx h0] at hc;exact ⟨x,e,Can.wv hM hb hc hf⟩
theorem qc5(M:Nat):WV M zR 0:=⟨⟨⟨by simp[zR,iQ,Dg],by simp[zR,iQ],fun _=>rfl⟩,⟨by simp[zR,iQ,Dg],by simp[zR,iQ],fun _=>rfl⟩,by simp[zR,iQ],by simp[zR,iQ]⟩,by rw[xq];exact Bj _ _,rfl⟩
theorem K5{M:Nat}(h0:M≠0):cT false M M=1:=by
 have:=Ry (n:=1) (d:=1) h0;rw[rD] at this;rw[this];rfl
theorem quT{M:Nat}(hM:M<4294967296^8)(h0:M≠0):WV M kO M:=Can.wv hM (aR _) (by rw[K5 h0];exact Jy) rfl
def dm(E:List (Int×RV)):List (AV×AV):=E.map fun p=>(.I p.1,p.2.av)
def lk:List (Int×RV)->Int->Option RV
 | [],_=>none
 | p::E,k=>if p.1=k then some p.2 else lk E k
def pm(E:List (Int×RV))(k:Int)(r:RV):List (Int×RV):=match lk E k with
 | some _=>E.map fun p=>if p.1=k then (p.1,r) else p
 | none=>E++[(k,r)]
theorem ZZ(a k:Int):jE (.I a) (.I k)=decide (a=k):=by simp[jE,wi]
theorem Pb(k:Int):∀E:List (Int×RV),(dm E).find? (fun p=>jE p.1 (.I k))=(lk E k).map fun r=>(.I k,r.av)
 | []=>rfl
 | p::E=>by
  rw[dm,gh,List.find?_cons,ZZ,lk]
  by_cases h:p.1=k
  .rw[bM h,aq h,h];rfl
  .rw[bD h,an h];exact Pb k E
theorem Z2{k:Int}(h:-1000000000000<=k/\k<=1000000000000):ku (.int .i64) (.I k)=true:=by
 have h1:IntKind.min .i64<=k:=by show (-9223372036854775808:Int)<=k;omega
 have h2:k<=IntKind.max .i64:=by show k<=9223372036854775807;omega
 simp only[ku,oU,GM,bM h1,bM h2,decide_true,ru]
theorem QQ{m:ai}{p:Nat}{E:List (Int×RV)}{k:Int}(hp:m.get p=some (.mp (.int .i64) (dm E)))(hk:-1000000000000<=k/\k<=1000000000000):p6 (.int .i64) zR.av m (.mref p) (.I k)=some (((lk E k).getD zR).av,(lk E k).isSome):=by
 have h1:nq m (.int .i64) (.mref p)=some (p,dm E):=by simp[nq,hp]
 unfold p6;rw[h1,ae,aq (Z2 hk),C0,Pb];cases lk E k<;>rfl
theorem Sl{m:ai}{p:Nat}{E:List (Int×RV)}{k:Int}(hp:m.get p=some (.mp (.int .i64) (dm E)))(hk:-1000000000000<=k/\k<=1000000000000)(hl:E.length<=1000000000)(r:RV):lY (.int .i64) m (.mref p) (.I k) r.av=some (m.set p (some (.mp (.int .i64) (dm (pm E k r))))):=by
 have h1:nq m (.int .i64) (.mref p)=some (p,dm E):=by simp[nq,hp]
 unfold lY;rw[h1,ae,aq ⟨Z2 hk,rfl,by rw[dm,bu];unfold maxLen;omega⟩];have hf:=Pb k E;congr 5;unfold oY pm
 cases hq:lk E k with
 | none=>
  rw[hq,Option.map_none,List.find?_eq_none] at hf;have:(dm E).any (fun p=>jE p.1 (.I k))=false:=by rw[List.any_eq_false];exact hf
  rw[this];simp[dm]
 | some r0=>
  rw[hq] at hf
  have:(dm E).any (fun p=>jE p.1 (.I k))=true:=by
   rw[List.any_eq_true];exact ⟨_,List.mem_of_find?_eq_some hf,List.find?_some (p:=fun p:AV×AV=>jE p.1 (.I k)) hf⟩
  rw[this];simp only[dm,sj];refine List.map_congr_left fun p hp=>?_;simp only[Function.comp];rw[ZZ]
  by_cases h:p.1=k
  .rw[bM h,aq rfl,aq h]
  .rw[bD h,an aA,an h]
theorem qbD(E:List (Int×RV))(k:Int)(r:RV):(pm E k r).length<=E.length+1:=by
 unfold pm;split<;>simp
theorem qar(k k':Int)(r:RV):∀E:List (Int×RV),lk (E++[(k,r)]) k'=match lk E k' with|some x=>some x|none=>if k=k' then some r else none
 | []=>rfl
 | p::E=>by
  rw[b6,lk,lk]
  by_cases h:p.1=k'
  .rw[aq h,aq h]
  .rw[an h,an h,qar k k' r E]
theorem qas(k k':Int)(r:RV):∀E:List (Int×RV),lk (E.map fun p=>if p.1=k then (p.1,r) else p) k'=if k=k' then (lk E k').map fun _=>r else lk E k'
 | []=>by simp[lk]
 | p::E=>by
  rw[gh,lk,qas k k' r E,lk]
  by_cases h:p.1=k
  .subst h;rw[aq rfl]
   by_cases h2:p.1=k'
   .rw[aq h2,aq h2,aq h2];rfl
   .simp[h2]
  .rw[an h]
   by_cases h2:p.1=k'
   .subst h2;have h3:¬ k=p.1:=fun e=>h e.symm;rw[aq rfl,an h3];simp
   .simp[h2]
theorem qat(E:List (Int×RV))(k k':Int)(r:RV):lk (pm E k r) k'=if k=k' then some r else lk E k':=by
 unfold pm
 cases hq:lk E k with
 | none=>
  simp only[qar]
  by_cases h:k=k'
  .subst h;rw[hq]
  .rw[an h,an h];cases lk E k'<;>rfl
 | some x=>
  simp only[qas]
  by_cases h:k=k'
  .subst h;rw[aq rfl,aq rfl,hq];rfl
  .rw[an h,an h]
def xT(M:Nat)(E:List (Int×RV))(T:Nat->Nat):Prop:=∀j:Nat,WV M ((lk E j).getD zR) (T j)
theorem xT.put{M:Nat}{E:List (Int×RV)}{T:Nat->Nat}(h:xT M E T){k N:Nat}{r:RV}(hr:WV M r N):xT M (pm E k r) (upd T k N):=fun j=>by
 rw[qat];unfold upd
 by_cases hj:j=k
 .subst hj;rw[aq rfl,aq rfl];exact hr
 .rw[an aa,an hj];exact h j
theorem CX{m:ai}{k:Nat}{r:RV}(h:m.get k=some (.B [.bool r.neg,r.num.av,r.den.av])):aj (some 3) m (.ptr k 0)=some r.av:=by
 rw[fK,h];rfl
theorem Gx{m:ai}{k:Nat}{c1 c2 c3:AV}{r:RV}(h:m.get k=some (.B [c1,c2,c3])):aP (some 3) m (.ptr k 0) r.av=some (m.set k (some (.B [.bool r.neg,r.num.av,r.den.av]))):=by
 rw[sa,h];rfl
section
variable {s:Nat} {F:List Nat} {zs:Bool} {os:Own} {most:Int} {l:List ND} {ar:List Int}
def ab(ar:List Int)(l:List ND)(i:Nat):Int:=dP ar.length (l.getD i ⟨0,[],0⟩)
theorem A67{m:ai}(h:dW m s F (IA zs os ar) most l){pb:Nat}(hb:m.get pb=some (.B [.ptr s 0])){x y:Nat}(hx:x<l.length)(hy:y<l.length)(dQ:ar.length<=16)(g:GoodL ar l):∃m',AC af 67 [ni x,ni y,.ptr pb 0] m=some (.I (ab ar l x-ab ar l y),m')/\Fr m m' []:=by
 obtain ⟨m1,e1,f1⟩:=L7 h hx;have h1:dW m1 s F (IA zs os ar) most l:=h.fr f1 (fun _ _ h=>by cases h);obtain ⟨m2,e2,f2⟩:=L7 h1 hy;have hb1:m1.get pb=some (.B [.ptr s 0]):=by rw[f1.get pb (bW hb) aA];exact hb
 refine ⟨m2,?_,Fr.trans f1 f2 fun _ h=>by cases h⟩
 have bnd:∀i (hi:i<l.length),-2<=dP ar.length l[i]/\dP ar.length l[i]<=16:=fun i hi=>by
  unfold dP
  split
  .have:=(g.var i hi (by omega)).1;omega
  .omega
 have b1:=bnd x hx;have b2:=bnd y hy;unfold ab;rw[iM hx,iM hy,T67,p5 hb,ae,ae,e1,ae];rw[yK (by rw[p5 hb1];rfl),e2,ae,pz,iV aa aa,ae]
theorem qoN{m0:ai}{nm:Nat}(h:dW m0 s F (IA zs os ar) most l)(AK:nm∉F){pb:Nat}(hb:m0.get pb=some (.B [.ptr s 0]))(hne:pb≠nm)(dQ:ar.length<=16)(g:GoodL ar l):rv m0 nm l.length (.ptr pb 0) (ab ar l):=fun m f x y hx hy=>
 A67 (h.fr f fun a ha hh=>AK (by simpa [List.mem_singleton.1 hh] using ha)) (by rw[f.get pb (bW hb) (by simpa using hne)];exact hb) hx hy dQ g
end
end Go.Ab
namespace Go.Ab
open Go.Proofs Go.Proofs.Tryz
abbrev OL:=Pq.OL
abbrev IL:=Pq.IL
def bO(L:OL)(u j:Nat):Nat:=(((L.es.map Pq.IL.ns).getD u []).getD j 0).toNat
structure OddsOk (ar:List Int) (L:OL):Prop where
 len:L.es.length=ar.length
 row:∀(u:Nat) (h:u<L.es.length),Pq.RowOk L.es[u]/\(L.es[u].ns.length:Int)=ar.getD u 0
theorem RP{L:OL}{u:Nat}(h:u<L.es.length)(j:Nat):bO L u j=(L.es[u].ns.getD j 0).toNat:=by
 unfold bO;rw[aT (l:=L.es.map Pq.IL.ns),mS,bP h];rfl
theorem qt5:∀(l:List Int),(∀o∈l,0<=o)->mQ l.length (fun j=>(l.getD j 0).toNat)=l.sum.toNat/\0<=l.sum:=by
 have key:∀(l:List Int),(∀o∈l,0<=o)->(((List.range l.length).map fun j=>(l.getD j 0).toNat).sum:Nat)=l.sum.toNat/\0<=l.sum:=by
  intro l
  induction l with
  | nil=>intro _;exact ⟨rfl,aA⟩
  | cons a l ih=>
   intro h;obtain ⟨h1,h2⟩:=ih fun o ho=>h o (fW _ ho);have ha:=h a gj;rw[ba,List.range_succ_eq_map,gh,lZ,sj,lZ];refine ⟨?_,aa⟩;have e:((fun j=>((a::l).getD j 0).toNat) ∘ Nat.succ)=fun j=>(l.getD j 0).toNat:=by funext j;rfl
   rw[e,h1];show a.toNat+_=_;omega
 exact key
theorem OddsOk.ss{ar:List Int}{L:OL}(h:OddsOk ar L){u:Nat}(hu:u<L.es.length):SS ar (bO L) u=L.es[u].ns.sum.toNat/\0<SS ar (bO L) u/\SS ar (bO L) u<=64000:=by
 obtain ⟨r,hl⟩:=h.row u hu
 have e:SS ar (bO L) u=L.es[u].ns.sum.toNat:=by
  rw[<- (qt5 L.es[u].ns fun o ho=>(r.2.1 o ho).1).1];unfold SS;rw[show nG ar u=L.es[u].ns.length by unfold nG;omega];exact xB fun j _=>RP hu j
 obtain ⟨S,hS,h0,hb⟩:=r.sum;rw[hS] at e;exact ⟨by rw[e,hS],by rw[e];omega,by rw[e];omega⟩
theorem U7{ar:List Int}{s:Nat->Nat->Nat}(h:∀v,v<ar.length->0<SS ar s v/\SS ar s v<=64000):∀d v,v+d<=ar.length->0<PM ar s d v/\PM ar s d v<=64000^d
 | 0,v,_=>⟨Nat.one_pos,aR _⟩
 | d+1,v,hv=>by
  obtain ⟨h1,h2⟩:=h v aa;obtain ⟨h3,h4⟩:=U7 h d (v+1) aa;refine ⟨Nat.mul_pos h1 h3,?_⟩;rw[PM,kh,dF];exact ti h4 h2
theorem El{ar:List Int}{s:Nat->Nat->Nat}(h:∀v,v<ar.length->0<SS ar s v/\SS ar s v<=64000)(dQ:ar.length<=16):PM ar s ar.length 0≠0/\PM ar s ar.length 0<4294967296^8:=by
 obtain ⟨h1,h2⟩:=U7 h ar.length 0 aa;refine ⟨aa,jQ h2 ?_⟩;exact jQ (qI aa dQ) (by decide)
theorem OddsOk.all{ar:List Int}{L:OL}(h:OddsOk ar L):∀v,v<ar.length->0<SS ar (bO L) v/\SS ar (bO L) v<=64000:=fun v hv=>(h.ss (by rw[h.len];exact hv)).2
theorem qsD{ar:List Int}{L:OL}(h:OddsOk ar L){u:Nat}(hu:u<L.es.length){j:Nat}(hj:j<L.es[u].ns.length):∃p:RV,AP af 70 [(L.es[u].fr).av,.I (j:Int)]=some p.av/\Can p (cT false (bO L u j) (SS ar (bO L) u))/\ROk 9 p/\p.fr=p:=by
 obtain ⟨r,hl⟩:=h.row u hu;have r':Pq.RowOk L.es[u].fr:=r;obtain ⟨p,e,hc,hf⟩:=Pq.V70 r' (i:=j) hj;have e1:Pq.partQ L.es[u].fr j=cT false (bO L u j) (SS ar (bO L) u):=by rw[(h.ss hu).1,RP hu];rfl
 have hb:=Pq.partQ_bd r (i:=j) hj;have gO:Bd 1 (cT false (bO L u j) (SS ar (bO L) u)):=by rw[<- e1];exact hb
 rw[e1] at hc;exact ⟨p,e,hc,(hc.ok gO (by omega)).mono aa,hf⟩
abbrev bR(r:RV):Option Ent:=some (.B [.bool r.neg,r.num.av,r.den.av])
abbrev bZ:Option Ent:=some (.B [.bool false,aD,aD])
theorem ue(m:ai)(e e':Option Ent){k:Nat}(hk:k=m.length):List.set (m++[e]) k e'=m++[e']:=by
 subst hk;rw[tg _ _ (aR _),qn];rfl
theorem Li(m:ai)(e f e':Option Ent){k:Nat}(hk:k=m.length):List.set ((m++[e])++[f]) k e'=(m++[e'])++[f]:=by
 rw[List.set_append_left _ _ (by simp;omega),ue m e e' hk]
theorem La(m:ai):bV m 1=m++[some .resv]:=rfl
theorem xu(m:ai):bV m 2=(m++[some .resv])++[some .resv]:=by simp[bV,List.replicate]
section
variable {M:Nat} {pd:Nat}
theorem qlG{ar:List Int}{L:OL}(hO:OddsOk ar L){l:List ND}{k u:Nat}(hk:k<l.length)(hu:l[k].var=u)(lT:u<L.es.length)(hM:M<4294967296^8)(h0:M≠0){t:Nat}{w:RV}(hw:WV M w (t*SS ar (bO L) u)){T:Nat->Nat}
  (hb:∀(A:List (Nat×Nat)) (p:Nat×Nat) (A':List (Nat×Nat)),j9 ar (bO L) l[k]=A++p::A'->lF t A T p.1+t*p.2<=M) (tN:∀(i:Nat) (h:i<l[k].kids.length),∃q:Nat,l[k].kids[i]=q/\q<=1000000) (fZ:l[k].kids.length=nG ar u) (Y9:nG ar u<=64)
  {c:Nat} {z:Bool} {o:Own} (x3 x8 aS kS kT kg:AV) (K:KT):∀(d j:Nat) (m:ai) (E:List (Int×RV)),j+d=l[k].kids.length->pd<c->c+1<m.length ->
  m.get c=some (.B [.I l[k].var,fD l[k],.I l[k].leaf])->m.get (c+1)=bR w->m.get pd=some (.mp (.int .i64) (dm E))->xT M E (lF t ((j9 ar (bO L) l[k]).take j) T)->E.length+d<=900000000 ->
  ∃(m':ai) (E':List (Int×RV)),ry L.av x3 x8 (.mref pd) aS (.ptr c 0) (.ptr (c+1) 0) kS kT kg (IA z o l[k].kids) (.I l[k].kids.length) (.I j) m K=K (.exit 2) (IM L.av x3 x8 (.mref pd) aS kS kT kg m')/\Fr m m' [pd]/\m'.get pd=some (.mp (.int .i64) (dm E'))/\xT M E' (lF t (j9 ar (bO L) l[k]) T)/\E'.length<=E.length+d:=by
 have oS:l[k].var.toNat=u:=aa;have hWl:(j9 ar (bO L) l[k]).length=l[k].kids.length:=by unfold j9;rw[bu,List.length_range,oS,fZ]
 intro d
 induction d with
 | zero=>
  intro j m E hj CL YL CB PX uU hR hE;refine ⟨m,E,?_,Fr.refl _ _,uU,by rw[iX aa] at hR;exact hR,aa⟩;rw[MZ,bz,ae,aC,an aa]
 | succ d ih=>
  intro j m E hj CL YL CB PX uU hR hE;have kr:j<l[k].kids.length:=aa;obtain ⟨q,eq,hq⟩:=tN j kr;have jA:l[k].kids.getD j 0=(q:Int):=by rw[aT,bP kr,fk,eq]
  have Yz:(j9 ar (bO L) l[k])[j]'(by omega)=(q,bO L u j):=by
   unfold j9;rw[tf,List.getElem_range,jA,oS];rfl
  have qq1:j9 ar (bO L) l[k]=(j9 ar (bO L) l[k]).take j++(q,bO L u j)::(j9 ar (bO L) l[k]).drop (j+1):=by
   rw[<- Yz,<- jP,oG]
  have PS:=hb _ _ _ qq1;dsimp only at PS;have kN:(j9 ar (bO L) l[k]).take (j+1)=(j9 ar (bO L) l[k]).take j++[(q,bO L u j)]:=by rw[mU aa,Yz]
  generalize hTj:lF t ((j9 ar (bO L) l[k]).take j) T=Tj at hR PS;have hjr:j<L.es[u].ns.length:=by have:=(hO.row u lT).2;unfold nG at fZ;omega
  obtain ⟨p,ep,cp,op,fp⟩:=qsD hO lT hjr;obtain ⟨x,ex,wx⟩:=hw.mul hM (Nat.pos_iff_ne_zero.1 (hO.ss lT).2.1) cp op aa;have hS:=hO.ss lT;have iy:=Pq.index_ol (l:=L) (kk:=.i64) lT;have n8:aI none (IA z o l[k].kids) (.I j)=some (.vptr [.I (q:Int)]):=by rw[j6 kr,eq]
  have qT:=bW CB;have hpl:=bW uU;have ldw:aj (some 3) (bV m 1) (.ptr (c+1) 0)=some w.av:=CX (by rw[La,cK aa];exact PX);have ldv:aj none (bV m 1) (.ptr c (0+0))=some (.I u):=by rw[fK,La,cK aa,CB,hu];rfl
  have p70:aF (AP af) (some m.length) (bV m 1) 70 [L.es[u].av,.I j]=some (p.av,bV m 1):=by rw[fN (Pq.fz_il _) (gJ _ _),ep];rfl
  have p69:aF (AP af) (some m.length) (bV m 1) 69 [w.av,p.av]=some (x.av,bV m 1):=by rw[fN (jv w) (jv p),hw.fr,fp,ex];rfl
  have m1e:((az (some m.length) (bV m 1) (.B [.bool false,aD,aD])).2)=m++[bZ]:=by rw[Gj,La,ue m _ _ rfl]
  have st1:aP (some 3) (m++[bZ]) (.ptr m.length 0) x.av=some (m++[bR x]):=by rw[Gx (cJ rfl),ue m _ _ rfl]
  have qqg:ai.get (m++[bR x]) pd=some (.mp (.int .i64) (dm E)):=by rw[cK hpl];exact uU
  have lkq:=QQ qqg (k:=(q:Int)) aa;have m2e:(az none (m++[bR x]) (.B [.bool false,aD,aD])).2=(m++[bR x])++[bZ]:=rfl;have l1:(m++[bR x]).length=m.length+1:=aA;generalize hr:(lk E q).getD zR=r at lkq;have wr:WV M r (Tj q):=by rw[<- hr];exact hR q
  have st2:aP (some 3) ((m++[bR x])++[bZ]) (.ptr (m.length+1) 0) r.av=some ((m++[bR x])++[bR r]):=by
   rw[Gx (c1:=.bool false) (c2:=aD) (c3:=aD) (cJ l1.symm),ue _ _ _ l1.symm]
  have ldx:aj (some 3) ((m++[bR x])++[bR r]) (.ptr m.length 0)=some x.av:=CX (by rw[cK aA,cJ rfl]);have ldr:aj (some 3) ((m++[bR x])++[bR r]) (.ptr (m.length+1) 0)=some r.av:=CX (cJ l1.symm)
  have fin:∀(y:RV) (M2:ai),WV M y (Tj q+t*bO L u j)->Fr m M2 []->m.length<=M2.length ->
    ∃(m':ai) (E':List (Int×RV)),((lY (.int .i64) M2 (.mref pd) (.I (q:Int)) y.av).bind fun m21=>(ag .o .add (.I (j:Int)) (.I 1)).bind fun v22=>ry L.av x3 x8 (.mref pd) aS (.ptr c 0) (.ptr (c+1) 0) kS kT kg (IA z o l[k].kids) (.I l[k].kids.length) v22 m21 K)=K (.exit 2) (IM L.av x3 x8 (.mref pd) aS kS kT kg m')/\Fr m m' [pd]/\m'.get pd=some (.mp (.int .i64) (dm E'))/\xT M E' (lF t (j9 ar (bO L) l[k]) T)/\E'.length<=E.length+(d+1):=by
   intro y M2 wy f2 jC;have qv:M2.get pd=some (.mp (.int .i64) (dm E)):=by rw[f2.get pd hpl aA];exact uU
   have Qk:=bW qv;have up:=Sl qv (k:=(q:Int)) aa aa y;have ple:=qbD E q y;have fr2:Fr m (M2.set pd (some (.mp (.int .i64) (dm (pm E q y))))) [pd]:=(f2.mono (by simp)).set _ (.inl aA)
   obtain ⟨m',E',e,k1,k2,k3,k4⟩:=ih (j+1) (M2.set pd (some (.mp (.int .i64) (dm (pm E q y))))) (pm E q y) aa CL (by rw[il];omega) (by rw[cQ aa,f2.get c qT aA];exact CB) (by rw[cQ aa,f2.get (c+1) YL aA];exact PX) (di rfl Qk) (by
    rw[kN,Ln,hTj]
    exact hR.put wy) aa
   refine ⟨m',E',?_,Fr.trans fr2 k1 (fun a ha=>.inl ha),k2,k3,aa⟩;rw[up,ae,bU aa,ae];exact e
  have pre:ry L.av x3 x8 (.mref pd) aS (.ptr c 0) (.ptr (c+1) 0) kS kT kg (IA z o l[k].kids) (.I l[k].kids.length) (.I j) m K =
    aB (.bool (lk E q).isSome) (
     (aj (some 3) ((m++[bR x])++[bR r]) (.ptr (m.length+1) 0)).bind fun bK=>
     (aj (some 3) ((m++[bR x])++[bR r]) (.ptr m.length 0)).bind fun bH=>
     (aF (AP af) none ((m++[bR x])++[bR r]) 71 [bK,bH]).bind fun ij=>
     (aP (some 3) ij.2 (.ptr m.length 0) ij.1).bind fun m19=>
     (aj (some 3) m19 (.ptr m.length 0)).bind fun v20=>
     (lY (.int .i64) m19 (.mref pd) (.I (q:Int)) v20).bind fun m21=>
     (ag .o .add (.I (j:Int)) (.I 1)).bind fun v22=>
     ry L.av x3 x8 (.mref pd) aS (.ptr c 0) (.ptr (c+1) 0) kS kT kg (IA z o l[k].kids) (.I l[k].kids.length) v22 m21 K) (
     (aj (some 3) ((m++[bR x])++[bR r]) (.ptr m.length 0)).bind fun v23=>
     (lY (.int .i64) ((m++[bR x])++[bR r]) (.mref pd) (.I (q:Int)) v23).bind fun m24=>
     (ag .o .add (.I (j:Int)) (.I 1)).bind fun v25=>
     ry L.av x3 x8 (.mref pd) aS (.ptr c 0) (.ptr (c+1) 0) kS kT kg (IA z o l[k].kids) (.I l[k].kids.length) v25 m24 K):=by
   rw[MZ,bz,ae,aC,aq aa,n8,ae,gP,ae,ldw,ae,iL,ae,ldv,ae,iy,ae,Pq.load_ol,ae,p70,ae];dsimp only;rw[p69,ae];dsimp only;rw[m1e,show (az (some m.length) (bV m 1) Ent.resv).1=m.length from rfl,st1,ae,show (AV.agg [.bool false,aD,aD])=zR.av from rfl,lkq,ae];dsimp only;rw[show ∀a b:AV,a8 (.tup [a,b]) 0=some a from fun _ _=>rfl,ae,show ∀a b:AV,a8 (.tup [a,b]) 1=some b from fun _ _=>rfl,ae,m2e,show (az none (m++[bR x]) Ent.resv).1=m.length+1 from l1,st2,ae]
  rw[pre]
  cases Fw:lk E q with
  | none=>
   rw[Option.isSome_none,gT,ldx,ae]
   have hz:Tj q=0:=by
    have h1:=hR q;rw[Fw,Option.getD_none] at h1;have h2:=(qc5 M).q;rw[h1.q,xq,qbL h0] at h2;exact h2
   obtain ⟨m',E',e,kk⟩:=fin x ((m++[bR x])++[bR r]) (by rw[hz,bq];exact wx) (((Fr.refl m []).snoc _).snoc _) aA;exact ⟨m',E',e,kk⟩
  | some r0=>
   obtain ⟨y,ey,wy⟩:=wr.add hM h0 wx PS;have p71:aF (AP af) none ((m++[bR x])++[bR r]) 71 [r.av,x.av]=some (y.av,(m++[bR x])++[bR r]):=by rw[fN (jv r) (jv x),wr.fr,wx.fr,ey];rfl
   have st3:aP (some 3) ((m++[bR x])++[bR r]) (.ptr m.length 0) y.av=some ((m++[bR y])++[bR r]):=by
    rw[Gx (c1:=.bool x.neg) (c2:=x.num.av) (c3:=x.den.av) (by rw[cK aA,cJ rfl]),Li m _ _ _ rfl]
   have ldy:aj (some 3) ((m++[bR y])++[bR r]) (.ptr m.length 0)=some y.av:=CX (by rw[cK aA,cJ rfl]);rw[Option.isSome_some,ll,ldr,ae,ldx,ae,p71,ae];dsimp only;rw[st3,ae,ldy,ae];obtain ⟨m',E',e,kk⟩:=fin y ((m++[bR y])++[bR r]) wy (((Fr.refl m []).snoc _).snoc _) aA;exact ⟨m',E',e,kk⟩
end
end Go.Ab
namespace Go.Ab
open Go.Proofs Go.Proofs.Tryz
section
variable {ar:List Int} {L:OL} {l:List ND}
theorem qsE(hO:OddsOk ar L){u:Nat}(hu:u<L.es.length){j:Nat}:Pq.partQ L.es[u] j=cT false (bO L u j) (SS ar (bO L) u):=by rw[(hO.ss hu).1,RP hu];rfl
theorem YD(hO:OddsOk ar L)(g:GoodL ar l)(h1:∀x∈ar,1<=x)(c:Int){M:Nat}(hM:M=PM ar (bO L) ar.length 0)(h0:M≠0){i:Nat}(hi:i<l.length){n:Pq.ND}(hv:n.var=l[i].var)(hk:n.kids.ns=l[i].kids)(hf:n.leaf=l[i].leaf){ws:LV}(hw:∀j,j<i->Pq.wQ ws j=cT false (Hc ar (bO L) l c j) M):Pq.hasQ L ws c n=cT false (Hc ar (bO L) l c i) M:=by
 by_cases hn:l[i].var<0
 .rw[Pq.hasQ_leaf aa,SP c hi hn,hf,<- hM]
  split
  .exact (K5 h0).symm
  .exact (xq _ _).symm
 .obtain ⟨a1,a2⟩:=g.var i hi aa;obtain ⟨u,hu⟩:=nE (show 0<=l[i].var by omega);have oS:l[i].var.toNat=u:=aa;have lT:u<L.es.length:=by rw[hO.len];omega
  obtain ⟨q,b1,b2⟩:=YC (s:=bO L) g h1 c i u hi hu;rw[oS] at a2;have fZ:l[i].kids.length=nG ar u:=by unfold nG;omega
  rw[Pq.hasQ_node lT (hv.trans hu),b2,hk,fZ]
  have key:∀j,j<=nG ar u->Pq.sumR (Pq.termQ L.es[u] ws n) j=cT false (mQ j fun j=>bO L u j*q j) M:=by
   intro j
   induction j with
   | zero=>intro _;rw[qt4];exact (xq _ _).symm
   | succ j ih=>
    intro hj;obtain ⟨t,e,ht,_⟩:=pK g hi aa (k:=j) (by rw[oS];exact tn aa)
    have e2:Pq.termQ L.es[u] ws n j=cT false (bO L u j*q j) M:=by
     unfold Pq.termQ;have:=b1 j aa;rw[hk,qsE hO lT,hw _ (by rw[e,cU];exact ht),this,Gn,show (false != false)=false from rfl];have hS:=(hO.ss lT).2.1;rw[show bO L u j*(SS ar (bO L) u*q j)=bO L u j*q j*SS ar (bO L) u by rw[dF (SS ar (bO L) u),fQ],dF (SS ar (bO L) u) M];exact Ry aa
    rw[Pq.sumR,ih aa,e2,Rx h0,vC]
  exact key _ (aR _)
end
end Go.Ab
namespace Go.Ab
open Go.Proofs Go.Proofs.Tryz
def DH(M:Nat)(En:List (Int×RV))(D:List (Int×Nat)):Prop:=∀p∈D,∃r,lk En p.1=some r/\WV M r p.2
theorem DH.put{M:Nat}{En:List (Int×RV)}{D:List (Int×Nat)}(h:DH M En D){c:Int}{N:Nat}{r:RV}(hc:c∉D.map Prod.fst)(hr:WV M r N):DH M (pm En c r) (D++[(c,N)]):=fun p hp=>by
 rw[qat]
 rcases hZ.1 hp with hp|hp
 .rw[an (fun e=>hc (by rw[e];exact List.mem_map_of_mem hp))];exact h p hp
 .obtain rfl:p=(c,N):=by simpa using hp
  rw[aq rfl];exact ⟨r,rfl,hr⟩
abbrev bN(n:ND):Option Ent:=some (.B [.I n.var,fD n,.I n.leaf])
section
variable {s:Nat} {F:List Nat} {zs:Bool} {os:Own} {most:Int} {l:List ND} {ar:List Int}
theorem qlH{L:OL}(hO:OddsOk ar L)(g:GoodL ar l)(h1:∀x∈ar,1<=x/\x<=64)(dQ:ar.length<=16)(fI:l.length<=100000){M0:ai}(h0:dW M0 s F (IA zs os ar) most l){pb pd pe nm:Nat}(hpd:pd∉F)(AR:pe∉F)(hne:pd≠pe)(hb0:M0.get pb=some (.B [.ptr s 0]))(hbd:pb≠pd)(hbe:pb≠pe){ids:List Nat}(mI:M0.get nm=some (.obj false (ds ids)))(hnd:nm≠pd)(hnp:nm≠pe)
  (cE:ids.length<=100000) (x8:AV) (K:KT):∀(R P:List Nat) (m:ai) (E En:List (Int×RV)) (T:Nat->Nat) (done:Nat) (D:List (Int×Nat)),ids=P++R->Flow ar (bO L) l R T done->Fr M0 m [pd,pe]->m.get pd=some (.mp (.int .i64) (dm E))->m.get pe=some (.mp (.int .i64) (dm En)) ->
  xT (PM ar (bO L) ar.length 0) E T->DH (PM ar (bO L) ar.length 0) En D->((D++run ar (bO L) l R T).map Prod.fst).Nodup->E.length+64*R.length<=900000000->En.length+R.length<=900000000 ->
  ∃(m':ai) (En':List (Int×RV)),BP L.av (.ptr pb 0) x8 (.mref pd) (.mref pe) (.arr nm 0 ids.length none) (.I ids.length) (.I P.length) m K=K (.exit 0) (NH x8 (.mref pe) m')/\Fr M0 m' [pd,pe]/\m'.get pe=some (.mp (.int .i64) (dm En'))/\DH (PM ar (bO L) ar.length 0) En' (D++run ar (bO L) l R T):=by
 obtain ⟨rM,wF⟩:=El hO.all dQ;intro R
 induction R with
 | nil=>
  intro P m E En T done D Aw hF f jA yt hR JX AN PH JW;rw[cu] at Aw;subst Aw;refine ⟨m,En,?_,f,yt,by rw[run,cu];exact JX⟩;rw[T8,bz,ae,aC,an aa]
 | cons k R ih=>
  intro P m E En T done D Aw hF f jA yt hR JX AN PH JW;have hk:=hF.lt k gj;have qu:P.length<ids.length:=by rw[Aw];simp
  have Qd:∀a∈F,a∉[pd,pe]:=fun a ha hh=>by
   simp only[gI,zK,or_false] at hh
   rcases hh with rfl|rfl
   .exact hpd ha
   .exact AR ha
  have ic:=h0.fr f Qd;obtain ⟨p0,na,TT,st,_⟩:=ic;have bc:=st.ok _ (bA hk);have YZ:m.get pb=some (.B [.ptr s 0]):=by rw[f.get pb (bW hb0) (by simp[hbd,hbe])];exact hb0
  have Fq:m.get nm=some (.obj false (ds ids)):=by rw[f.get nm (bW mI) (by simp[hnd,hnp])];exact mI
  have qqH:=bW YZ;have Kj:=bW jA;have Zr:=bW yt;have mM:=bW st.hs;have rg:∀x,x<m.length->ai.get (bV m 2) x=m.get x:=fun x hx=>by rw[xu,cK (by simp;omega),cK hx]
  have ix:aI none (.arr nm 0 ids.length none) (.I P.length)=some (.ptr nm P.length):=gF qu
  have ldk:aj none m (.ptr nm P.length)=some (.I (k:Nat)):=by
   rw[fK,Fq,mg,ae,wq];exact JM (by rw[Aw];simp)
  have ldb:aj none (bV m 2) (.ptr pb 0)=some (.ptr s 0):=p5 (by rw[rg _ qqH];exact YZ);have Kv:aj none (bV m 2) (.ptr s (0+1))=some na:=by rw[fK,rg _ mM,st.hs];rfl
  have AO:=Gf st.hn hk;have ldv:aj (some 3) (bV m 2) (.vptr [.I l[k].var,fD l[k],.I l[k].leaf])=some l[k].av:=rfl;have lkq:=QQ (m:=bV m 2) (p:=pd) (E:=E) (k:=(k:Int)) (by rw[rg _ Kj];exact jA) aa;generalize hw:(lk E k).getD zR=w at lkq;have ww:WV (PM ar (bO L) ar.length 0) w (T k):=by rw[<- hw];exact hR k
  have e1:((az (some (m.length+1)) (az (some m.length) (bV m 2) (.B [.I 0,aD,.I 0])).2 (.B [.bool false,aD,aD])).2)=(m++[some (.B [.I 0,aD,.I 0])])++[bZ]:=by
   rw[Gj,Gj,xu,Li m _ _ _ rfl,ue _ _ _ aA]
  have hsh:dJ (some 3) l[k].av=true:=by unfold ND.av fD;split<;>rfl
  have st1:aP (some 3) ((m++[some (.B [.I 0,aD,.I 0])])++[bZ]) (.ptr m.length 0) l[k].av=some ((m++[bN l[k]])++[bZ]):=by
   rw[show l[k].av=.agg [.I l[k].var,fD l[k],.I l[k].leaf] from rfl,qcs (a:=.I 0) (b:=aD) (c:=.I 0) (by rw[cK aA,cJ rfl]) hsh,Li m _ _ _ rfl]
  have st2:aP (some 3) ((m++[bN l[k]])++[bZ]) (.ptr (m.length+1) 0) w.av=some ((m++[bN l[k]])++[bR w]):=by
   rw[Gx (c1:=.bool false) (c2:=aD) (c3:=aD) (cJ aA),ue _ _ _ aA]
  have gn:ai.get ((m++[bN l[k]])++[bR w]) m.length=some (.B [.I l[k].var,fD l[k],.I l[k].leaf]):=by rw[cK aA,cJ rfl]
  have gw:ai.get ((m++[bN l[k]])++[bR w]) (m.length+1)=bR w:=cJ aA;have gl:∀x,x<m.length->ai.get ((m++[bN l[k]])++[bR w]) x=m.get x:=fun x hx=>by rw[cK (by simp;omega),cK hx]
  have fM:Fr m ((m++[bN l[k]])++[bR w]) []:=((Fr.refl m []).snoc _).snoc _;have lM:((m++[bN l[k]])++[bR w]).length=m.length+2:=aA;generalize hMM:(m++[bN l[k]])++[bR w]=MM at gn gw gl fM lM st2;have ld0:aj none MM (.ptr m.length (0+0))=some (.I l[k].var):=by rw[fK,gn];rfl
  have ld1:∀M',M'.get m.length=some (.B [.I l[k].var,fD l[k],.I l[k].leaf])->aj none M' (.ptr m.length (0+1))=some (fD l[k]):=fun M' h=>by rw[fK,h];rfl
  have ld2:aj none MM (.ptr m.length (0+2))=some (.I l[k].leaf):=by rw[fK,gn];rfl
  have ldw:aj (some 3) MM (.ptr (m.length+1) 0)=some w.av:=CX gw;have CE:=w7 bc;have Yr:(P++[k]).length=P.length+1:=aA
  have pre:BP L.av (.ptr pb 0) x8 (.mref pd) (.mref pe) (.arr nm 0 ids.length none) (.I ids.length) (.I P.length) m K =
    aB (.bool (decide (l[k].var<0))) (
     (lY (.int .i64) MM (.mref pe) (.I l[k].leaf) w.av).bind fun m19=>
     (some (AV.ptr m.length (0+1))).bind fun v20=>
     (aj none m19 v20).bind fun v21=>
     (aM false v21).bind fun v22=>
     ry L.av (.ptr pb 0) x8 (.mref pd) (.mref pe) (.ptr m.length 0) (.ptr (m.length+1) 0) (.arr nm 0 ids.length none) (.I ids.length) (.I P.length) v21 v22 (.I 0) m19 (zw K)) (
     ry L.av (.ptr pb 0) x8 (.mref pd) (.mref pe) (.ptr m.length 0) (.ptr (m.length+1) 0) (.arr nm 0 ids.length none) (.I ids.length) (.I P.length) (IA (kz l[k]) (ko l[k]) l[k].kids) (.I l[k].kids.length) (.I 0) MM (zw K)):=by
   rw[T8,bz,ae,aC,aq aa,ix,ae,ldk,ae,ldb,ae,p8,ae,iL,ae,Kv,ae,AO,ae,ldv,ae,show (AV.agg [.bool false,aD,aD])=zR.av from rfl,lkq,ae];dsimp only;rw[e1,show (az (some m.length) (bV m 2) Ent.resv).1=m.length from rfl,st1,ae];have e2:∀x,(az (some (m.length+1)) x Ent.resv).1=m.length+1:=fun _=>rfl;rw[e2,st2,ae,iL,ae,ld0,ae,bz,ae,iL,ae,ld2,ae,ldw,ae,iL,ae,ld1 MM gn,ae,CE,iT,ae]
  by_cases hv:l[k].var<0
  ·
   obtain ⟨PI,wG,_⟩:=hF.leaf g hk hv
   have pJ:run ar (bO L) l (k::R) T=(l[k].leaf,T k)::run ar (bO L) l R T:=by
    rw[run,bP hk];dsimp only;rw[aq hv]
   rw[pJ] at AN ⊢
   have hlf:-1000000000000<=l[k].leaf/\l[k].leaf<=1000000000000:=by
    rcases bc with ⟨_,_,h3⟩|⟨h3,_⟩<;>omega
   have Y0:MM.get pe=some (.mp (.int .i64) (dm En)):=by rw[gl _ Zr];exact yt
   have up:=Sl Y0 hlf (by simp at JW;omega) w
   have hcn:l[k].leaf∉D.map Prod.fst:=fun hh=>by
    rw[iH,gh] at AN;exact (List.nodup_append.1 AN).2.2 _ hh _ gj rfl
   have ple:=qbD En l[k].leaf w
   have uW:l[k].kids=[]:=by
    rcases bc with ⟨_,h2,_⟩|⟨h2,_⟩
    .exact h2
    .omega
   have Qk:=bW Y0;have f2:Fr M0 (MM.set pe (some (.mp (.int .i64) (dm (pm En l[k].leaf w))))) [pd,pe]:=(Fr.trans f fM fun _ h=>by cases h).set _ (.inl aA);obtain ⟨m',En',e,k1,k2,k3⟩:=ih (P++[k]) _ E (pm En l[k].leaf w) T _ (D++[(l[k].leaf,T k)]) (by rw[Aw,gR];rfl) PI f2 (by rw[cQ hne,gl _ Kj];exact jA) (di rfl Qk) hR (JX.put hcn ww) (by rw[gR];exact AN) (by simp at PH;omega) (by simp at JW;omega);refine ⟨m',En',?_,k1,k2,by rw[gR] at k3;exact k3⟩;rw[Yr] at e;have gn2:ai.get (MM.set pe (some (.mp (.int .i64) (dm (pm En l[k].leaf w))))) m.length=some (.B [.I l[k].var,fD l[k],.I l[k].leaf]):=by rw[cQ aa];exact gn
   rw[pre,bM hv,ll,up,ae,ae,ld1 _ gn2,ae,CE,iT,ae,MZ,bz,ae,aC,an (by rw[uW];simp),S8,bU aa,ae];exact e
  ·
   obtain ⟨u,hu⟩:∃u:Nat,l[k].var=u:=⟨l[k].var.toNat,aa⟩;have oS:l[k].var.toNat=u:=aa;obtain ⟨lT,Ko,gz,_,hbound,PI,_⟩:=hF.inner g (fun v hv=>(hO.all v hv).1) hk hu
   have pJ:run ar (bO L) l (k::R) T=run ar (bO L) l R (lF (T k/SS ar (bO L) u) (j9 ar (bO L) l[k]) T):=by
    rw[run,bP hk];dsimp only;rw[an hv,oS]
   rw[pJ] at AN ⊢;obtain ⟨kZ,rQ⟩:=g.var k hk aa;rw[oS] at rQ;have fZ:l[k].kids.length=nG ar u:=by unfold nG;omega
   have Y9:nG ar u<=64:=by
    have:=h1 _ (bA lT);unfold nG;rw[aT,bP lT,fk];omega
   have quX:E.length+(64*R.length+64)<=900000000:=by simp only[ba] at PH;omega
   obtain ⟨m1,E1,e17,f1,g1,r1,nQ⟩:=qlG hO hk hu (by rw[hO.len];exact lT) wF rM (t:=T k/SS ar (bO L) u) (w:=w) (by rw[Ko];exact ww) (T:=T) hbound (fun i hi=>by
     obtain ⟨q,e,hq⟩:=pZ g hk _ (bA hi)
     exact ⟨q,e,aa⟩) fZ Y9 (c:=m.length) (z:=kz l[k]) (o:=ko l[k]) (.ptr pb 0) x8 (.mref pe) (.arr nm 0 ids.length none) (.I ids.length) (.I P.length) (zw K) l[k].kids.length 0 MM E aa Kj aa gn gw (by rw[gl _ Kj];exact jA) (by rw[List.take_zero];exact hR) aa
   have f2:Fr M0 m1 [pd,pe]:=Fr.trans (Fr.trans f fM fun _ h=>by cases h) f1 fun a ha=>.inl (by simp at ha;simp[ha]);have qqe:m1.get pe=some (.mp (.int .i64) (dm En)):=by rw[f1.get pe aa (by simp;exact fun e=>hne e.symm),gl _ Zr];exact yt
   obtain ⟨m',En',e,k1,k2,k3⟩:=ih (P++[k]) m1 E1 En _ done D (by rw[Aw,gR];rfl) PI f2 g1 qqe r1 JX AN aa (by simp at JW;omega);refine ⟨m',En',?_,k1,k2,k3⟩;rw[Yr] at e;have e17:ry L.av (.ptr pb 0) x8 (.mref pd) (.mref pe) (.ptr m.length 0) (.ptr (m.length+1) 0) (.arr nm 0 ids.length none) (.I ids.length) (.I P.length) (IA (kz l[k]) (ko l[k]) l[k].kids) (.I l[k].kids.length) (.I 0) MM (zw K)=_:=e17;rw[pre,bD hv,gT,e17,S8,bU aa,ae];exact e
end
end Go.Ab
namespace Go.Ab.Pq
open Go.Proofs.Tryz
structure HI (c:CV) (n:ND) (s:RV) (m:ai):Prop where
 g0:m[0]?=some (cC c)
 g1:m[1]?=some (cR zR)
 g2:m[2]?=some (cN n)
 g3:m[3]?=some (cR s)
theorem qQ{m:ai}{k:Nat}{e:Option Ent}(h:m[k]?=some e)(x:Option Ent):(m++[x])[k]?=some e:=by
 rw[nZ (vQ.1 h).1];exact h
theorem HI.app{c:CV}{n:ND}{s:RV}{m:ai}(h:HI c n s m)(e:Option Ent):HI c n s (m++[e]):=⟨qQ h.g0 e,qQ h.g1 e,qQ h.g2 e,qQ h.g3 e⟩
theorem HI.put{c:CV}{n:ND}{s:RV}{m:ai}(h:HI c n s m)(t:RV):HI c n t (m.set 3 (cR t)):=by
 have hl:3<m.length:=(vQ.1 h.g3).1
 refine ⟨?_,?_,?_,?_⟩
 .rw[ql aa];exact h.g0
 .rw[ql aa];exact h.g1
 .rw[ql aa];exact h.g2
 .rw[qH hl]
theorem qpc(a b:AV):a8 (.tup [a,b]) 0=some a:=rfl
theorem qpd(a b:AV):a8 (.tup [a,b]) 1=some b:=rfl
theorem qtO{c0 c1 c2:Option Ent}{r r':RV}:aP (some 3) [c0,c1,c2,cR r] (.ptr 3 0) r'.av=some [c0,c1,c2,cR r']:=rfl
theorem V9{l:IL}(h:RowOk l)(x2 x4 x5 x7:AV)(m:ai)(K:KT):∀j i:Nat,i+j=l.ns.length ->
  HH x2 x4 x5 (.I (l.ns.take i).sum) x7 l.av (.I l.ns.length) (.I i) m K=K (.exit 0) (Nc x2 x4 x5 (.I l.ns.sum) x7 m)
 | 0,i,iD=>by
  rw[Tl,bS,ae,aC,an aa,iX aa]
 | j+1,i,iD=>by
  have hi:i<l.ns.length:=aa;have:=h.1;obtain ⟨b1,b2⟩:=qcG h i;obtain ⟨a,ha,tC⟩:=h.get hi;have ih:=V9 h x2 x4 x5 x7 m K j (i+1) aa;rw[qcI hi] at ih;rw[Tl,bS,ae,aC,aq hi,nj hi,ae,np,ae,l9,iV aa aa,ae,bU aa,ae,ih]
theorem V8{c:CV}{n:ND}{v S:Nat}(hw:LOk 30 c.ws)(hv:n.var=(v:Int))(fL:v<c.odds.es.length)(h:NodeOk c.odds.es[v] c.ws n)(hS:c.odds.es[v].ns.sum=(S:Int))(Cv:S≠0)(Fe:S<=64000)(K:KT):∀(j i:Nat) (s:RV) (m:ai),i+j=n.kids.ns.length->Can s (sumR (termQ c.odds.es[v] c.ws n) i)->s.fr=s->HI c n s m ->
  ∃(t:RV) (m':ai),Can t (sumR (termQ c.odds.es[v] c.ws n) n.kids.ns.length)/\t.fr=t/\HI c n t m'/\HG (.ptr 0 0) (.ptr 1 0) (.ptr 2 0) (.I (S:Int)) (.ptr 3 0) n.kids.av (.I n.kids.ns.length) (.I i) m K=K (.exit 2) (Nb (.ptr 1 0) (.ptr 3 0) m')
 | 0,i,s,m,iD,hs,hf,hm=>by
  obtain rfl:i=n.kids.ns.length:=aa;exact ⟨s,m,hs,hf,hm,by rw[Ti,bS,ae,aC,an aa]⟩
 | j+1,i,s,m,iD,hs,hf,hm=>by
  have hi:i<n.kids.ns.length:=aa;have hlen:=h.len;have h64:=h.row.1;obtain ⟨k,hk,jB,Fu⟩:=h.kid hi;obtain ⟨a,ha,tC⟩:=h.row.get (i:=i) aa;obtain ⟨p,p1,p2,p3⟩:=qkB (a:=a) (b:=S) aa aa Cv;rw[<- Rl (l:=c.odds.es[v]) aa ha hS] at p2;have okp:=p2.ok ((partQ_bd h.row (by omega)).mono (by omega:1<=4000)) aa;have okw:=(hw.ok _ (bA jB)).mono (by omega:30<=4000);obtain ⟨q,q1,q2,q3⟩:=qkC okp okw aa aa
  have et:p.q*c.ws.es[k].q=termQ c.odds.es[v] c.ws n i:=by
   unfold termQ;rw[p2.q,Fu,cU,wQ_get jB]
  rw[et] at q2;have oks:=hs.ok (Ly h hw aa) aa;have okq:=q2.ok ((Sc h hw hi).mono (by omega:31<=4000)) aa;obtain ⟨t,t1,t2,t3⟩:=OD oks okq aa aa;have es:s.q+q.q=sumR (termQ c.odds.es[v] c.ws n) (i+1):=by rw[hs.q,q2.q];rfl
  rw[es] at t2;obtain ⟨u,m',u1,u2,u3,u4⟩:=V8 hw hv fL h hS Cv Fe K j (i+1) t _ aa t2 t3 ((hm.app (cR p)).put t);refine ⟨u,m',u1,u2,u3,?_⟩;have wfr:=hw.fr _ (bA jB);have fT:=hm.app (cR p);rw[Ti,bS,ae,aC,aq hi,nj hi,ae,np,ae,cG,ae,qO hm.g0,ae,cG,ae,oB hm.g2,ae,hv,index_ol fL,ae,load_ol,ae,nj aa,ae,np,ae,ha,qbs,p1,aQ,ae,qpc,ae,qpd,ae];simp only[p7,cr];rw[Gw,ae,nV fT.g3,ae,qad,ae,cH,ae,qs fT.g0,ae,hk,yL hw jB,ae,xd,ae,cO,p3,wfr,q1,aQ,ae,cO,hf,q3,t1,aQ,ae,xy fT.g3,ae,bU aa,ae];exact u4
theorem qkz{c:CV}(hw:LOk 30 c.ws)(hs:c.nodes.sh=some 3\/c.nodes.es=[]){i:Nat}(hi:i<c.nodes.es.length)(h1:c.nodes.es[i].var=-1\/0<=c.nodes.es[i].var)(h:NodeAt c.odds c.ws c.nodes.es[i]):∃s:RV,AP af 111 [c.av,.I (i:Int)]=some s.av/\Can s (hasQ c.odds c.ws c.leaf c.nodes.es[i])/\s.fr=s:=by
 have fin:∀(s:RV) (m:ai),s.fr=s->AC af 111 [c.av,.I (i:Int)] []=some (s.av,m)->AP af 111 [c.av,.I (i:Int)]=some s.av:=fun s m hs h=>(cw _ _ (jv s) (lV _) h).trans (by rw[hs]);have start:AC af 111 [c.av,.I (i:Int)] []=AC af 111 [c.av,.I (i:Int)] []:=rfl;have gc:∀M:ai,(cC c::M)[0]?=some (cC c):=fun _=>rfl;generalize hne:c.nodes.es[i]=n at *;have gn:∀(a b:Option Ent) (M:ai),(a::b::cN n::M)[2]?=some (cN n):=fun _ _ _=>rfl
 conv at start=>rhs;rw[qjB,ya,ae]
 simp only[p7,cr,mO,bo,bF,ba,b6,bq,Nat.reduceAdd] at start;rw[cF,ae,pU (gc _),ae,tZ hs hi,ae,w9,ae,hne] at start;have st2:=Bb (m:=[cC c,cR zR]) (x:=zN) (y:=n);simp only[bo,bF,ba,b6,bq,Nat.reduceAdd] at st2;rw[st2,ae,cG,ae,oB (gn _ _ _),ae,iK,ae,aC] at start
 by_cases c1:n.var=-1
 .rw[aq c1,cH,ae,sQ (gn _ _ _),ae,yi,ae,uK (gc _),ae,iK,ae,aC] at start;rw[hasQ_leaf aa]
  by_cases c2:n.leaf=c.leaf
  .rw[aq c2,cS,Jd,aQ,ae,cZ,ae,cY,ae] at start;refine ⟨sT,fin _ _ Bc start,?_,Bc⟩;rw[aq c2];exact wk
  .rw[an c2,cS,Jc,aQ,ae,cZ,ae,cY,ae] at start;refine ⟨qh,fin _ _ BB start,?_,BB⟩;rw[an c2];exact Jx
 .rcases h with h|⟨v,hv,hn,h⟩
  .omega
  obtain ⟨S,hS,Cv,Fe⟩:=h.row.sum;have jL:=fun K=>V9 h.row (.ptr 0 0) (.ptr 1 0) (.ptr 2 0) (.ptr 3 0) [cC c,cR zR,cN n,cR qh] K c.odds.es[v].ns.length 0 aa;rw[List.take_zero,List.sum_nil,hS,show (((0:Nat):Int))=(0:Int) from rfl] at jL;obtain ⟨t,m',t1,t2,t3,t4⟩:=V8 hw hn hv h hS Cv Fe (Mg (aH f111)) n.kids.ns.length 0 qh [cC c,cR zR,cN n,cR qh] aa Jx BB ⟨rfl,rfl,rfl,rfl⟩;rw[show (((0:Nat):Int))=(0:Int) from rfl] at t4;rw[an c1,cS,Jc,aQ,ae] at start;simp only[p7,cr,bo,bF,ba,b6,bq,Nat.reduceAdd] at start;rw[qtO,ae,cG,ae,qO (gc _),ae,ae,oB (gn _ _ _),ae,hn,index_ol hv,ae,load_ol,ae,jS,ae,jL,qdN,cF,ae,qB (gn _ _ _),ae,jS,ae,t4,qdK,nV t3.g3,ae,xy t3.g1,ae,nV (x:=t) (by rw[qH (vQ.1 t3.g1).1]),ae] at start;exact ⟨t,fin _ _ t2 start,by rw[hasQ_node hv hn];exact t1,t2⟩
end Go.Ab.Pq
namespace Go.Ab.Pq
open Go.Proofs.Tryz
theorem zip_all{L:OL}{ns:List Int}(hl:L.es.length=ns.length)(h:(L.es.zip ns).all (fun p=>rowB p.1 p.2)=true){v:Nat}(hv:v<L.es.length):rowB L.es[v] (ns[v]'(by omega))=true:=by
 have hz:v<(L.es.zip ns).length:=by rw[Ed];omega
 have:=gD.1 h _ (bA hz);rw[List.getElem_zip] at this;exact this
theorem qcj{c:CV}(h:shapedB c=true){v:Nat}(hv:v<c.odds.es.length):RowOk c.odds.es[v]:=by
 unfold shapedB at h;simp only[cD] at h;obtain ⟨_,h1,h2,_⟩:=h;unfold oddsB at h2;rw[cD,wu] at h2;have h3:=zip_all h2.1 h2.2 hv;unfold rowB at h3;simp only[cD,wu] at h3;exact ⟨Kx h1 _ (bA hv),fun o ho=>oddB_iff.1 (gD.1 h3.1 o ho),h3.2.2⟩
theorem Gv{c:CV}(h:shapedB c=true):c.ws.es.length=c.nodes.es.length/\0<c.nodes.es.length:=by
 unfold shapedB at h;simp only[cD,wu] at h;obtain ⟨h0,_,_,h1,_⟩:=h;unfold nodesB at h1;rw[cD,wu] at h1;exact ⟨h0.2.2.2,h1.1⟩
theorem qci{c:CV}(h:shapedB c=true){i:Nat}(hi:i<c.nodes.es.length):nodeB (armsI (lens c.odds)) c.nodes.es i c.nodes.es[i]=true:=by
 unfold shapedB at h;simp only[cD] at h;obtain ⟨_,_,_,h1,_⟩:=h;unfold nodesB at h1;rw[cD] at h1;have:=allF_iff.1 h1.2 i aa aa
 rwa [E7 hi] at this
theorem Lk{c:CV}(h:shapedB c=true){i:Nat}(hi:i<c.nodes.es.length):NodeAt c.odds c.ws c.nodes.es[i]/\(c.nodes.es[i].var=-1\/0<=c.nodes.es[i].var):=by
 have hn:=qci h hi;have hl:=(Gv h).1;refine ⟨?_,Q9 hn⟩;unfold nodeB at hn
 by_cases c1:c.nodes.es[i].var=-1
 .exact .inl aa
 .rw[an c1,cD,wu] at hn;obtain ⟨⟨h0,h1,h2,h3⟩,h4⟩:=hn;obtain ⟨v,hv⟩:=nE h0;rw[armsI_ns,yP] at h1;have fL:v<c.odds.es.length:=aa;have qq6:v<(lens c.odds).length:=by rw[yP];exact fL
  rw[armsI_ns,hv,cU,aT,bP qq6] at h3;have h3:(c.nodes.es[i].kids.ns.length:Int)=(lens c.odds)[v]:=h3;rw[lens_get fL] at h3;refine .inr ⟨v,fL,hv,qcj h fL,aa,fun k hk=>?_⟩;have:=gD.1 h4 k hk;unfold kidB at this;rw[cD,wu] at this;omega
def okAt(c:CV)(i:Nat):Bool:=decide (wQ c.ws i=hasQ c.odds c.ws c.leaf (c.nodes.es.getD i zN))
def firstF(f:Nat->Bool):Nat->Nat->Option Nat
 | 0,_=>none
 | j+1,i=>if f i then firstF f j (i+1) else some i
def checkE(c:CV):Int:=if shapedB c=true then (match firstF (okAt c) c.nodes.es.length 0 with|none=>0|some _=>32) else 1
def checkI(c:CV):Int:=if shapedB c=true then (match firstF (okAt c) c.nodes.es.length 0 with|none=>0|some i=>i) else 0
def checkQ(c:CV):Rat:=if checkE c=0 then wQ c.ws (c.nodes.es.length-1) else 0
theorem X8(r:RV)(a b:Int):Fz (.tup [r.av,.I a,.I b]) (.tup [r.fr.av,.I a,.I b]):=by
 intro m;have e:cq m kX (.tup [r.av,.I a,.I b])=(fU (cq m 8) [r.av,.I a,.I b]).map fun r=>(.tup r.1,r.2):=rfl;rw[e];simp[fU,X7,kn _ _ m 7]
theorem Jp:fR (.agg [.bool false,.lst none true .full [],.lst none true .full []]) []=some zR.av:=rfl
theorem NodeAt.fr{odds:OL}{ws:LV}{n:ND}(h:NodeAt odds ws n):NodeAt odds.fr ws.fr ⟨n.var,n.kids.fr,n.leaf⟩:=by
 rcases h with h|⟨v,hv,hn,h⟩
 .exact .inl h
 .exact .inr ⟨v,hv,hn,h.row,h.len,h.kids⟩
theorem NodeAt.fr2{odds:OL}{ws:LV}{n:ND}(h:NodeAt odds ws n):NodeAt odds.fr ws.fr n:=by
 rcases h with h|⟨v,hv,hn,h⟩
 .exact .inl h
 .exact .inr ⟨v,hv,hn,h.row,h.len,h.kids⟩
theorem L4:zR.q=0:=Bj _ _
theorem L3:ROk 1 zR:=⟨⟨by simp[zR,iQ,Dg],by simp[zR,iQ],fun _=>rfl⟩,⟨by simp[zR,iQ,Dg],by simp[zR,iQ],fun _=>rfl⟩,by simp[zR,iQ],by simp[zR,iQ]⟩
structure CI (c:CV) (m:ai):Prop where
 g0:m[0]?=some (cC c)
 g1:m[1]?=some (cR zR)
theorem CI.app{c:CV}{m:ai}(h:CI c m)(e:Option Ent):CI c (m++[e]):=⟨qQ h.g0 e,qQ h.g1 e⟩
theorem Wp{c:CV}(hc:COk 30 c)(hs:shapedB c=true)(K:KT):∀(j i:Nat) (m:ai),i+j=c.nodes.es.length->CI c m ->
  ∃m',CI c m'/\BU (.ptr 0 0) (.ptr 1 0) c.nodes.av (.I c.nodes.es.length) (.I i) m K=match firstF (okAt c) j i with
   | none=>K (.exit 0) (N4 (.ptr 0 0) (.ptr 1 0) m')
   | some p=>K .ret (IZ (.ptr 1 0) (.I p) (.I 32) m')
 | 0,i,m,iD,hm=>⟨m,hm,by rw[Uv,bS,ae,aC,an aa];rfl⟩
 | j+1,i,m,iD,hm=>by
  have hi:i<c.nodes.es.length:=aa;have hl:=(Gv hs).1;have hn:=hc.nlen;have hw:i<c.ws.es.length:=aa;obtain ⟨rO,_⟩:=Lk hs hi;obtain ⟨m',hm',ih⟩:=Wp hc hs K j (i+1) (m++[cN c.nodes.es[i]]) aa (hm.app _);obtain ⟨s,s1,s2,s3⟩:=V110 (odds:=c.odds.fr) (n:=⟨c.nodes.es[i].var,c.nodes.es[i].kids.fr,c.nodes.es[i].leaf⟩) (ws:=c.ws.fr) c.leaf hc.ws.fr' rO.fr;have s2:Can s (hasQ c.odds c.ws c.leaf c.nodes.es[i]):=s2;have okw:=hc.ws.ok _ (bA hw)
  have hb:Bd 4000 (hasQ c.odds c.ws c.leaf c.nodes.es[i]):=by
   rcases rO with h|⟨v,hv,rQ,h⟩
   .rw[hasQ_leaf h]
    split
    .exact BD aa
    .exact zk aa
   .rw[hasQ_node hv rQ];exact Ly h hc.ws (aR _)
  have wfr:=hc.ws.fr _ (bA hw);have e14:=VA (okw.mono (by omega:30<=4000)) (s2.ok hb aa) wfr s3 aa aa;have fT:=hm.app (cN c.nodes.es[i])
  have eok:decide (c.ws.es[i].q=s.q)=okAt c i:=by
   unfold okAt;rw[wQ_get hw,E7 hi,s2.q]
  rw[eok] at e14
  have key:BU (.ptr 0 0) (.ptr 1 0) c.nodes.av (.I c.nodes.es.length) (.I i) m K=aB (.bool (okAt c i)) (BU (.ptr 0 0) (.ptr 1 0) c.nodes.av (.I c.nodes.es.length) (.I ((i+1:Nat):Int)) (m++[cN c.nodes.es[i]]) K) (K .ret (IZ (.ptr 1 0) (.I i) (.I 32) ((m++[cN c.nodes.es[i]]).set 1 (cR zR)))):=by
   rw[Uv,bS,ae,aC,aq hi,tZ hc.nsh hi,ae,w9,ae];simp only[mO,cr];rw[Bb,ae,cH,ae,qs fT.g0,ae,yL hc.ws hw,ae,xd,ae,cG,ae,qO fT.g0,ae,KO (x:=c.nodes.es[i]) oP,ae,yi,ae,uK fT.g0,ae,ae,qs fT.g0,ae,qbt (fz_ol _) (fz_nd _) (gJ _ _) (Pw _),s1,aQ,ae,cO,wfr,s3,e14,aQ,ae,cM,ae,sP,bU aa,ae,Jp,ae,xy fT.g1,ae]
  rw[key,firstF]
  cases okAt c i with
  | true=>
   refine ⟨m',hm',?_⟩;rw[j8,ih];rfl
  | false=>
   refine ⟨(m++[cN c.nodes.es[i]]).set 1 (cR zR),⟨?_,?_⟩,rfl⟩
   .rw[ql aa];exact fT.g0
   .rw[qH (vQ.1 fT.g1).1]
theorem V53{c:CV}(hc:COk 30 c):∃r:RV,AP af 53 [c.av]=some (.tup [r.av,.I (checkI c),.I (checkE c)])/\r.q=checkQ c/\r.fr=r/\ROk 4000 r:=by
 have fin:∀(r:RV) (a b:Int) (m:ai),r.fr=r->AC af 53 [c.av] []=some (.tup [r.av,.I a,.I b],m)->AP af 53 [c.av]=some (.tup [r.av,.I a,.I b]):=fun r a b m hr h=>(cw _ _ (X8 r a b) rfl h).trans (by rw[hr]);have start:AC af 53 [c.av] []=AC af 53 [c.av] []:=rfl;have g0:([cC c,cR zR]:ai)[0]?=some (cC c):=rfl;have e13:AP af 112 [c.fr.av]=some (.bool (shapedB c)):=qkA hc.fr;have hl:=hc.nlen
 conv at start=>rhs;rw[T53,ya,ae]
 simp only[p7,cr,bo,bF,ba,b6,bq] at start;rw[uL g0,ae,cI (fz_cv _),e13,aQ,ae,cM,ae,sP] at start;unfold checkI checkE checkQ checkE
 cases hs:shapedB c with
 | false=>
  rw[hs,j7,Jp,ae,cZ,ae,cY,ae] at start;exact ⟨zR,fin _ _ _ _ zj start,by simp[L4],zj,L3.mono aa⟩
 | true=>
  obtain ⟨jC,hl3⟩:=Gv hs;obtain ⟨m',hm',hW⟩:=Wp hc hs (Hv (aH f53)) c.nodes.es.length 0 [cC c,cR zR] aa ⟨rfl,rfl⟩;rw[show (((0:Nat):Int))=(0:Int) from rfl] at hW;rw[hs,j8,cF,ae,pU g0,ae,ov,ae,hW] at start;simp only[bJ]
  cases hf:firstF (okAt c) c.nodes.es.length 0 with
  | some p=>
   rw[hf] at start;dsimp only at start;rw[qhP,nV hm'.g1,ae] at start;exact ⟨zR,fin _ _ _ _ zj start,by simp[L4],zj,L3.mono aa⟩
  | none=>
   rw[hf] at start;dsimp only at start;have me:c.nodes.es.length-1<c.ws.es.length:=aa;have okw:=(hc.ws.ok _ (bA me)).mono (by omega:30<=100);have wfr:=hc.ws.fr _ (bA me);obtain ⟨t,t1,t2,t3⟩:=Je okw (Ac.ok (zk (by omega:1<=100)) aa) aa aa
   have hJ:ag .o .sub (.I (c.ws.es.length:Int)) (.I 1)=some (.I ((c.nodes.es.length-1:Nat):Int)):=by
    rw[pz,iV aa aa];congr 2;omega
   rw[qhQ,cH,ae,qs hm'.g0,ae,ae,qs hm'.g0,ae,w8,ae,hJ,ae,yL hc.ws me,ae,xd,ae,cS,Ey,aQ,ae,cO,wfr,DA,t1,aQ,ae,xy hm'.g1,ae,nV (x:=t) (by rw[qH (vQ.1 hm'.g1).1]),ae] at start;have hq:t.q=wQ c.ws (c.nodes.es.length-1):=by rw[t2.q,Ac.q,Rat.add_zero,wQ_get me]
   refine ⟨t,fin _ _ _ _ t3 start,by rw[aq rfl,hq],t3,?_⟩;have:t.q=c.ws.es[c.nodes.es.length-1].q:=by rw[hq,wQ_get me]
   have uQ:=t2;rw[Ac.q,Rat.add_zero] at uQ;exact uQ.ok ((okw.bd (by omega)).mono aa) aa
theorem Wc{c:CV}(hc:COk 30 c)(hs:shapedB c=true)(K:KT):∀(j i:Nat),i+j=c.nodes.es.length ->
  BK (.ptr 0 0) (.ptr 1 0) (.I c.nodes.es.length) (.I i) [cC c,cR zR] K=match firstF (okAt c) j i with
   | none=>K (.exit 0) (Nj (.ptr 0 0) (.ptr 1 0) [cC c,cR zR])
   | some p=>K .ret (IU (.ptr 1 0) (.I p) (.I 32) [cC c,cR zR])
 | 0,i,iD=>by rw[Tn,bS,ae,aC,an aa];rfl
 | j+1,i,iD=>by
  have hi:i<c.nodes.es.length:=aa;have hl:=(Gv hs).1;have hn:=hc.nlen;have hw:i<c.ws.es.length:=aa;have g0:([cC c,cR zR]:ai)[0]?=some (cC c):=rfl;obtain ⟨rO,nh⟩:=Lk hs hi;have ih:=Wc hc hs K j (i+1) aa;obtain ⟨s,s1,s2,s3⟩:=qkz (c:=c.fr) hc.ws.fr' hc.nsh (i:=i) hi nh rO.fr2;have s2:Can s (hasQ c.odds c.ws c.leaf c.nodes.es[i]):=s2;have okw:=hc.ws.ok _ (bA hw)
  have hb:Bd 4000 (hasQ c.odds c.ws c.leaf c.nodes.es[i]):=by
   rcases rO with h|⟨v,hv,rQ,h⟩
   .rw[hasQ_leaf h]
    split
    .exact BD aa
    .exact zk aa
   .rw[hasQ_node hv rQ];exact Ly h hc.ws (aR _)
  have wfr:=hc.ws.fr _ (bA hw);have e9:=OC (okw.mono (by omega:30<=4000)) (s2.ok hb aa) aa aa
  have eok:decide (c.ws.es[i].q=s.q)=okAt c i:=by
   unfold okAt;rw[wQ_get hw,E7 hi,s2.q]
  rw[eok] at e9
  have key:BK (.ptr 0 0) (.ptr 1 0) (.I c.nodes.es.length) (.I i) [cC c,cR zR] K=aB (.bool (okAt c i)) (BK (.ptr 0 0) (.ptr 1 0) (.I c.nodes.es.length) (.I ((i+1:Nat):Int)) [cC c,cR zR] K) (K .ret (IU (.ptr 1 0) (.I i) (.I 32) [cC c,cR zR])):=by
   rw[Tn,bS,ae,aC,aq hi,cH,ae,qs g0,ae,yL hc.ws hw,ae,xd,ae,uL g0,ae,fN (fz_cv _) (gJ _ _),s1,aQ,ae,cO,wfr,s3,e9,aQ,ae,cM,ae,sP,bU aa,ae,Jp,ae,cZ,ae]
  rw[key,firstF]
  cases okAt c i with
  | true=>rw[j8,ih];rfl
  | false=>rfl
theorem qkE{c:CV}(hc:COk 30 c):∃r:RV,AP af 121 [c.av]=some (.tup [r.av,.I (checkI c),.I (checkE c)])/\r.q=checkQ c/\r.fr=r/\ROk 4000 r:=by
 have fin:∀(r:RV) (a b:Int) (m:ai),r.fr=r->AC af 121 [c.av] []=some (.tup [r.av,.I a,.I b],m)->AP af 121 [c.av]=some (.tup [r.av,.I a,.I b]):=fun r a b m hr h=>(cw _ _ (X8 r a b) rfl h).trans (by rw[hr]);have start:AC af 121 [c.av] []=AC af 121 [c.av] []:=rfl;have g0:([cC c,cR zR]:ai)[0]?=some (cC c):=rfl;have e18:AP af 162 [c.fr.av]=some (.bool (shapedB c)):=qkS hc.fr aa;have hl:=hc.nlen
 conv at start=>rhs;rw[qjK,ya,ae]
 simp only[p7,cr,bo,bF,ba,b6,bq] at start;rw[uL g0,ae,cI (fz_cv _),e18,aQ,ae,cM,ae,sP] at start;unfold checkI checkE checkQ checkE
 cases hs:shapedB c with
 | false=>
  rw[hs,j7,Jp,ae,cZ,ae,cY,ae] at start;exact ⟨zR,fin _ _ _ _ zj start,by simp[L4],zj,L3.mono aa⟩
 | true=>
  obtain ⟨jC,hl3⟩:=Gv hs;have hW:=Wc hc hs (G8 (aH f121)) c.nodes.es.length 0 aa;rw[show (((0:Nat):Int))=(0:Int) from rfl] at hW;rw[hs,j8,cF,ae,pU g0,ae,ov,ae,hW] at start;simp only[bJ]
  cases hf:firstF (okAt c) c.nodes.es.length 0 with
  | some p=>
   rw[hf] at start;dsimp only at start;rw[qee,cY,ae] at start;exact ⟨zR,fin _ _ _ _ zj start,by simp[L4],zj,L3.mono aa⟩
  | none=>
   rw[hf] at start;dsimp only at start;have me:c.nodes.es.length-1<c.ws.es.length:=aa;have okw:=hc.ws.ok _ (bA me);have wfr:=hc.ws.fr _ (bA me)
   have hJ:ag .o .sub (.I (c.ws.es.length:Int)) (.I 1)=some (.I ((c.nodes.es.length-1:Nat):Int)):=by
    rw[pz,iV aa aa];congr 2;omega
   rw[qef,cH,ae,qs g0,ae,ae,qs g0,ae,w8,ae,hJ,ae,yL hc.ws me,ae,xd,ae,cZ,ae,cY,ae] at start;exact ⟨_,fin _ _ _ _ wfr start,by rw[aq rfl,wQ_get me],wfr,okw.mono aa⟩
end Go.Ab.Pq
namespace Go.Ab
open Go.Proofs Go.Proofs.Tryz
def sU(c:Int)(r:RV):AV:=.agg [.I c,.bool r.neg,r.num.av,r.den.av]
inductive QR (e:Nat) (sh:Sh) (m:ai):AV->List AV->List Nat->Prop
 | none:QR e sh m aD [] []
 | some (t:Nat) (es:List AV) (ht:m.get t=some (.tok es.length sh.size)) (hne:es≠[]):QR e sh m (.lst sh false (.tok t e) es) es [t]
theorem RA{e:Nat}{sh:Sh}{m m':ai}{x:AV}{l:List AV}{T:List Nat}(h:QR e sh m x l T)(f:∀k∈T,m'.get k=m.get k):QR e sh m' x l T:=by
 cases h with
 | none=>exact .none
 | some t l ht hne=>exact .some t l ((f t (by simp)).trans ht) hne
theorem qs1{e b:Nat}{sh:Sh}{m:ai}{x:AV}{l:List AV}{T:List Nat}(h:QR e sh m x l T)(hb:(l.length+1)*b<=ft)(y:AV):∃x' m' T',bL none false e sh b m x (.lst sh false .full [y])=some (x',m')/\QR e sh m' x' (l++[y]) T'/\Fr m m' T/\Gr m T T':=by
 cases h with
 | none=>
  refine ⟨.lst sh false (.tok m.length e) [y],m++[some (Ent.tok 1 sh.size)],[m.length],?_,.some _ [y] (by rw[cJ rfl];rfl) aA,Fr.app m _ _,fun k hk=>?_⟩
  .have h2:b<=ft:=by simpa using hb
   simp[bL,h2,az]
  .obtain rfl:k=m.length:=by simpa using hk
   exact .inr (aR _)
 | some t es ht _=>
  have fJ:=bW ht
  refine ⟨.lst sh false (.tok t e) (l++[y]),m.set t (some (Ent.tok (l.length+1) sh.size)),[t],?_,?_,(Fr.refl m [t]).set _ (.inl aA),Gr.refl _ _⟩
  .simp[bL,ht,hb]
  .refine .some t (l++[y]) ?_ aA;rw[di rfl fJ,aW];rfl
theorem qbi{o:Own}(h:o.fr=o):∀a b,o≠.tok a b:=fun a b e=>by subst e;cases h
theorem Lt{x:NV}(h:x.fr=x):rl x.av=x.av:=by
 have h2:x.o.fr=x.o:=by have:=dc NV.o h;exact this
 unfold NV.av
 cases ho:x.o with
 | tok a b=>exact absurd ho (qbi h2 a b)
 | no=>rfl
 | full=>rfl
theorem KX{x:NV}(h:x.fr=x):pl x.av=true:=by
 have h2:x.o.fr=x.o:=by have:=dc NV.o h;exact this
 unfold NV.av
 cases ho:x.o with
 | tok a b=>exact absurd ho (qbi h2 a b)
 | no=>rfl
 | full=>rfl
theorem qtY{c:Int}{r:RV}(h:r.fr=r):mP (sU c r)=sU c r:=by
 have h1:r.num.fr=r.num:=dc RV.num h;have h2:r.den.fr=r.den:=dc RV.den h;unfold sU mP;simp only[gh,sk,Lt h1,Lt h2]
 rfl
theorem qox{c:Int}{r:RV}(h:r.fr=r):df (some 4) [sU c r]=some (.lst (some 4) false .full [sU c r]):=by
 have h1:r.num.fr=r.num:=dc RV.num h;have h2:r.den.fr=r.den:=dc RV.den h;have hs:dJ (some 4) (sU c r)=true:=rfl
 have hp:pl (sU c r)=true:=by
  show (pl (.I c)&&(pl (.bool r.neg)&&(pl r.num.av&&(pl r.den.av&&true))))=true;rw[KX h1,KX h2];rfl
 unfold df;simp only[nF,List.all_nil,gh,sk,qtY h,hs,hp,ru,Bool.and_true,bJ]
theorem qoq(c:Int)(r:RV):fR (.agg [.I 0,.bool false,aD,aD]) [(0,none,.I c),(1,some 3,r.av)]=some (sU c r):=rfl
section
variable {s:Nat} {F:List Nat} {zs:Bool} {os:Own} {most:Int} {l:List ND} {ar:List Int}
theorem Jk{M0:ai}{pe B:Nat}{En:List (Int×RV)}{rs:List Int}(mc:∀c∈rs,((lk En c).getD zR).fr=(lk En c).getD zR)(AR:M0.get pe=some (.mp (.int .i64) (dm En))){y:AV}(hy:I4 B M0 y rs)(hb:∀c∈rs,-1000000000000<=c/\c<=1000000000000)(hl:rs.length<=100000)(K:KT):∀(Q P:List Int) (m:ai) (x:AV) (T:List Nat),rs=P++Q->Fr M0 m []->QR 46 (some 4) m x (P.map fun c=>sU c ((lk En c).getD zR)) T->(∀k∈T,M0.length<=k) ->
  ∃(m':ai) (x':AV) (T':List Nat),DY (.mref pe) x y (.I rs.length) (.I P.length) m K=K (.exit 4) (NI x' m')/\Fr M0 m' []/\QR 46 (some 4) m' x' (rs.map fun c=>sU c ((lk En c).getD zR)) T'/\∀k∈T',M0.length<=k:=by
 intro Q
 induction Q with
 | nil=>
  intro P m x T pW f hx hT;rw[cu] at pW;subst pW;refine ⟨m,x,T,?_,f,hx,hT⟩;rw[Ua,bz,ae,aC,an aa]
 | cons c Q ih=>
  intro P m x T pW f hx hT;have qu:P.length<rs.length:=by rw[pW];simp
  rcases hy with ⟨_,h2⟩|⟨t,zs',rfl,hg,_⟩
  .rw[h2] at qu;simp at qu
  .have hgm:m.get t=some (.obj false ((rs++zs').map (AV.int .i64))):=by rw[f.get t (bW hg) aA];exact hg
   have CM:m.get pe=some (.mp (.int .i64) (dm En)):=by rw[f.get pe (bW AR) aA];exact AR
   have ix:aI none (.arr t 0 rs.length none) (.I P.length)=some (.ptr t P.length):=gF qu
   have ld:aj none m (.ptr t P.length)=some (.I c):=by
    rw[fK,hgm,mg,ae,wq];have:((rs++zs').map (AV.int .i64))[P.length]?=some (.I c):=by rw[pW];simp
    exact this
   have lkq:=QQ CM (k:=c) (hb c (by rw[pW];simp));obtain ⟨x2,m2,T2,ea,q2,f2,g2⟩:=qs1 (b:=64) hx (by rw[bu];unfold ft;omega) (sU c ((lk En c).getD zR));have j0:=f.len
   obtain ⟨m',x',T',e,k1,k2,k3⟩:=ih (P++[c]) m2 x2 T2 (by rw[pW,gR];rfl) (Fr.trans f f2 fun a ha=>.inr (hT a ha)) (by rw[iH];exact q2) (fun a ha=>by
    rcases g2 a ha with hh|hh
    .exact hT a hh
    .omega)
   refine ⟨m',x',T',?_,k1,k2,k3⟩;rw[aW,vS] at e;rw[Ua,bz,ae,aC,aq aa,ix,ae,ld,ae,show (AV.agg [.bool false,aD,aD])=zR.av from rfl,lkq,ae];dsimp only;rw[qoq,ae,qox (mc c (by rw[pW];simp)),ae,ea,ae,bU aa,ae];exact e
theorem KP{L:OL}(h64:∀r∈L.es,r.ns.length<=64)(h:Pq.oddsB ⟨zs,os,ar⟩ L=true):OddsOk ar L:=by
 unfold Pq.oddsB at h;rw[cD] at h;have hl:L.es.length=ar.length:=sS h.1;refine ⟨hl,fun u hu=>?_⟩;have hz:=Pq.zip_all (L:=L) (ns:=ar) hl h.2 hu;unfold Pq.rowB at hz;simp only[cD,oM,gD] at hz;refine ⟨⟨h64 _ (bA hu),fun o ho=>Pq.oddB_iff.1 (hz.1 o ho),hz.2.2⟩,?_⟩;rw[hz.2.1,aT,bP aa,fk]
theorem qsj{L:OL}(h64:∀r∈L.es,r.ns.length<=64)(h:OddsOk ar L):Pq.oddsB ⟨zs,os,ar⟩ L=true:=by
 unfold Pq.oddsB;rw[cD];refine ⟨bM h.len,gD.2 fun p hp=>?_⟩;obtain ⟨i,hi,rfl⟩:=n0 hp;have hi2:i<L.es.length:=by rw[Ed] at hi;omega
 obtain ⟨⟨r1,r2,r3⟩,hl⟩:=h.row i hi2;rw[List.getElem_zip];unfold Pq.rowB;simp only[cD,oM,gD];have hi3:i<ar.length:=by rw[<- h.len];exact hi2
 refine ⟨fun o ho=>Pq.oddB_iff.2 (r2 o ho),?_,r3⟩;rw[hl,aT,bP hi3,fk]
theorem X5(g:GoodL ar l){sf:Nat->Nat->Nat}{id:Nat}(hid:id<l.length){R:List Nat}(hp:R.Perm (Vi l id []))(hs:dn (ab ar l) R):Flow ar sf l R (upd (fun _=>0) id (PM ar sf ar.length 0)) 0:=by
 obtain ⟨c1,c2,_⟩:=pT g id hid [] qq;have hnd:R.Nodup:=hp.nodup_iff.2 c1.nd
 refine ⟨hnd,fun j hj=>c1.lt j (hp.mem_iff.1 hj),hs,fun j hj sJ hv k hk=>hp.mem_iff.2 (c1.kids (hp.mem_iff.1 sJ) hj k hk),fun j hj v sJ hv=>?_,?_⟩
 .unfold upd
  split
  .have fL:v<=ar.length:=by
    unfold dP at hv
    split at hv
    .have:=(g.var j hj (by omega)).1;omega
    .omega
   have:=Ek (ar:=ar) (s:=sf) v (ar.length-v) 0;rw[show v+(ar.length-v)=ar.length by omega,bq] at this;rw[this];exact Nat.dvd_mul_left _ _
  .exact Nat.dvd_zero _
 .have:=K1 (h:=fun _=>1) (T:=fun _=>0) (j:=id) (x:=PM ar sf ar.length 0) hnd;rw[bq,aq (hp.mem_iff.2 c2),mV] at this;rw[this]
  have z:∀R:List Nat,jT (fun _=>1) (fun _=>0) R=0:=fun R=>by
   unfold jT
   induction R with
   | nil=>rfl
   | cons a R ih=>rw[gh,lZ,ih];rfl
  rw[z];omega
abbrev qx(l:List ND)(id:Nat):List Int:=sc (ml (fun n=>n.leaf) (fun n=>decide (n.var<0)) l (Vi l id []))
theorem qai(g:GoodL ar l){i j:Nat}(hi:i<l.length)(hj:j<l.length)(vi:l[i].var<0)(vj:l[j].var<0)(e:l[i].leaf=l[j].leaf):i=j:=by
 refine C5 g.nd hi hj ?_;have h1:=g.ok _ (bA hi);have h2:=g.ok _ (bA hj)
 rcases h1 with ⟨a1,a2,_⟩|⟨a1,_⟩
 .rcases h2 with ⟨b1,b2,_⟩|⟨b1,_⟩
  .cases hx:l[i];cases hy:l[j];rw[hx] at a1 a2 e vi;rw[hy] at b1 b2 e vj
   simp_all
  .omega
 .omega
theorem qb3(g:GoodL ar l){sf:Nat->Nat->Nat}{R:List Nat}(hn:R.Nodup)(hlt:∀j∈R,j<l.length)(T:Nat->Nat):((run ar sf l R T).map Prod.fst).Nodup:=by
 rw[Lg g R T hlt]
 have key:∀(A:List Nat),A.Nodup->(∀j∈A,j<l.length/\(l.getD j ⟨0,[],0⟩).var<0)->(A.map fun j=>(l.getD j ⟨0,[],0⟩).leaf).Nodup:=by
  intro A
  induction A with
  | nil=>intro _ _;simp
  | cons a A ih=>
   intro hn hA;obtain ⟨h1,h2⟩:=uD.1 hn;rw[gh,uD];refine ⟨fun hm=>?_,ih h2 fun j hj=>hA j (fW _ hj)⟩;obtain ⟨b,hb,e⟩:=iw.1 hm;obtain ⟨la,va⟩:=hA a gj;obtain ⟨lb,vb⟩:=hA b (fW _ hb);rw[iM la] at va e;rw[iM lb] at vb e;have:=qai g lb la vb va e;subst this;exact h1 hb
 refine key _ (hn.filter _) fun j hj=>?_;obtain ⟨h1,h2⟩:=po.1 hj;exact ⟨hlt j h1,by simpa using h2⟩
theorem qt6{D:List (Int×Nat)}{c:Int}{N M:Nat}(hn:(D.map Prod.fst).Nodup)(hm:(c,N)∈D):(D.map fun p=>p.2*(if p.1=c then M else 0)).sum=N*M:=by
 induction D with
 | nil=>cases hm
 | cons p D ih=>
  rw[gh,uD] at hn;rw[gh,lZ]
  rcases gI.1 hm with e|hm
  .subst e;rw[aq rfl]
   have z:(D.map fun p=>p.2*(if p.1=c then M else 0)).sum=0:=by
    have:∀q∈D,q.1≠c:=fun q hq e=>hn.1 (by
     show c∈_
     rw[<- e];exact List.mem_map_of_mem hq)
    clear ih hm hn
    induction D with
    | nil=>rfl
    | cons q D ih=>rw[gh,lZ,an (this q gj),ih fun r hr=>this r (fW _ hr)];simp
   rw[z];rfl
  .have hne:p.1≠c:=fun e=>hn.1 (by rw[e];exact List.mem_map_of_mem (f:=Prod.fst) hm);rw[an hne,ih hn.2 hm,oI,bq]
theorem qtw(g:GoodL ar l)(h1:∀x∈ar,1<=x){sf:Nat->Nat->Nat}(h0:∀v,v<ar.length->0<SS ar sf v)(hM:PM ar sf ar.length 0≠0){id:Nat}(hid:id<l.length){R:List Nat}(hp:R.Perm (Vi l id []))(hs:dn (ab ar l) R){c:Int}{N:Nat}
  (hm:(c,N)∈run ar sf l R (upd (fun _=>0) id (PM ar sf ar.length 0))):N=Hc ar sf l c id:=by
 have F:=X5 g (sf:=sf) hid hp hs;obtain ⟨_,c2,_⟩:=pT g id hid [] qq
 have lS:=RK g h0 (YC g h1 c) (q:=fun c'=>if c'=c then PM ar sf ar.length 0 else 0) (fun k hk hv=>SP c hk hv) R _ 0 F
 rw[qt6 (qb3 g F.nd F.lt _) hm] at lS;have:=K1 (h:=Hc ar sf l c) (T:=fun _=>0) (j:=id) (x:=PM ar sf ar.length 0) F.nd;rw[bq,aq (hp.mem_iff.2 c2)] at this
 have z:jT (Hc ar sf l c) (fun _=>0) R=0:=by
  unfold jT;clear this lS hm F hs hp
  induction R with
  | nil=>rfl
  | cons a R ih=>rw[gh,lZ,ih];simp
 rw[this,z,bq,dF] at lS;exact (Nat.eq_of_mul_eq_mul_right (Nat.pos_iff_ne_zero.2 hM) lS).symm
theorem qtv(g:GoodL ar l){sf:Nat->Nat->Nat}{id:Nat}(hid:id<l.length){R:List Nat}(hp:R.Perm (Vi l id []))(T:Nat->Nat){c:Int}(hc:c∈qx l id):∃N,(c,N)∈run ar sf l R T:=by
 obtain ⟨c1,_,_⟩:=pT g id hid [] qq;rw[LD] at hc;have hk:=Lg (s:=sf) g R T fun j hj=>c1.lt j (hp.mem_iff.1 hj)
 have:c∈(run ar sf l R T).map Prod.fst:=by
  rw[hk];exact ((hp.filter _).map _).mem_iff.2 hc
 obtain ⟨p,uZ,e⟩:=iw.1 this;exact ⟨p.2,by rw[<- e];exact uZ⟩
theorem qum(ns:List Int):(sc ns).length<=ns.length:=by
 unfold sc;have:=O2 (o8 ns);rw[RX] at this;exact this
end
end Go.Ab
